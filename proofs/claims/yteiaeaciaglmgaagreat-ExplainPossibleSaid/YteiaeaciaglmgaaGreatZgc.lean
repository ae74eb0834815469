/- Layers Bq: the walks and the plain laws under the last text, merged and cut to what it uses; nothing is assumed. -/
import Derived.WalkKit
import Derived.WalkSpells
import Derived.Lib.Hide
import Derived.Deep.QuietTactic
import Derived.BigQuiet
import Derived.Deep.RegionHeldLaw
import Derived.Deep.DrawnRows
import Derived.MapKept
import Derived.RangeFuncRecord
import Derived.Maps.OwnOps
import Derived.Maps.OwnSet
import Derived.Maps.RangeRun
import Derived.Shelf.Small.Bits
import Derived.Shelf.Strconv.Itoa0
import Derived.Shelf.Sort.Plain
import Derived.Shelf.Slices.Reverse
import Derived.Ground.Names2Prog
import Derived.Shelf.Slices.Clone
import Derived.Shelf.Slices.SearchI
import Derived.Shelf.Slices.Cells
import Derived.Shelf.Slices.In.SortNone
import Derived.Ground.SlgnProg
import Derived.Shelf.SlicesE.Clone
import Derived.Ground.SlsfProg
import Derived.Shelf.SlSortCmp.Insertion
import Derived.Shelf.SlSortCmp.SiftDown1
import Derived.Shelf.SlSortCmp.HeapSort1
import Derived.Shelf.SlSortCmp.Insertion1
import Derived.Shelf.SlSortCmp.Median1
import Derived.Shelf.SlSortCmp.Pivot1
import Derived.Shelf.SlSortCmp.ReverseRange1
import Derived.Shelf.SlSortCmp.PartialInsertion1
import Derived.Shelf.SlSortCmp.PartitionEqual1
import Derived.Shelf.SlSortCmp.Partition1
import Derived.Shelf.SlSortCmp.Pdq1
import Derived.Shelf.SlSortCmp.Whole1
import Derived.Test.YteiaeaciaglmgaaGreatProg
import Derived.WideKeyPair
import Derived.DeepKeys5
import Derived.Maps.Keyed
import Derived.Deep.WholeRow
import Derived.Laws.CopyRow
import Derived.Lib.SliceRun
import Derived.Laws.Rows
import Derived.RangeFuncLeaves
import Derived.Test.YteiaeaciaglmgaaGreatRows
import Derived.StillTailTactics
import Derived.RangeFuncNested
import Derived.RangeFuncBound
import Derived.Shelf.Abstract
import Derived.RangeFuncCalls
import Derived.OwnWalkIn
import Derived.TacticsInMore
import Derived.LoopNIn
import Derived.LoopIn
import Derived.BigFrameIn
import Derived.Maps.OwnIn
import Derived.Deep.RegionHeld3
import Derived.Maps.AppendAt
import Derived.Deep.AppendLies
import Derived.Deep.Slices
import Derived.BigRegionIn
import Derived.Laws.BitsAllLaws
import Derived.Laws.BitsLemmas
import Derived.Deep.RegionHeld
import Derived.Laws.OwnMore
import Derived.OrdersIn
import Derived.Test.YteiaeaciaglmgaaGreatZgb
set_option linter.unusedVariables false
set_option linter.unusedSimpArgs false
namespace Go.Proofs.YteiaeaciaglmgaaGreat
open Go.RowKit
instance : Inhabited Lot := ⟨⟨[], false, []⟩⟩
theorem grown_below {a b : World} (h : Below a.heap.size a b) (row : Option Nat) : a.grownBy b row := ⟨h.os, h.tape, h.output, h.size, fun k hk _ => h.block k hk⟩
end Go.Proofs.YteiaeaciaglmgaaGreat
namespace Go.Proofs.YteiaeaciaglmgaaGreat
open Go.RowKit
theorem isnan_any (w : World) (x : Int) :
  Calls Tryz.prog 97 #[.int .i64 x] w fun e w' => e = .returned (.bool false) ∧ w' = w := by
 have h : (x != x) = false := by simp
 go_enter Tryz.func97, Tryz.ntmps97
 go_wp2
 go_ret
 exact ⟨by simp, rfl⟩
def cmpI (x y : Int) : Int := if x < y then -1 else if y < x then 1 else 0
theorem compare_any (w : World) (x y : Int) :
  Calls Tryz.prog 89 #[.int .i64 x, .int .i64 y] w fun e w' => e = .returned (.int .i64 (cmpI x y)) ∧ w' = w := by
 by_cases h1 : x < y
 ·have h1' : decide (x < y) = true := decide_eq_true h1
  have HE : Hid (cmpI x y = -1) := Lib.hid (by unfold cmpI; rw [if_pos h1])
  go_enter Tryz.func89, Tryz.ntmps89
  go_wp2_with (go_at_call 97; refine (isnan_any _ _).mono ?_; rintro e w5 ⟨rfl, rfl⟩)
  go_ret
  exact ⟨by rw [HE.out]; rfl, rfl⟩
 ·have h1' : decide (x < y) = false := decide_eq_false h1
  by_cases h2 : y < x
  ·have h2' : decide (y < x) = true := decide_eq_true h2
   have HE : Hid (cmpI x y = 1) := Lib.hid (by unfold cmpI; rw [if_neg h1, if_pos h2])
   go_enter Tryz.func89, Tryz.ntmps89
   go_wp2_with (go_at_call 97; refine (isnan_any _ _).mono ?_; rintro e w5 ⟨rfl, rfl⟩)
   go_ret
   exact ⟨by rw [HE.out]; rfl, rfl⟩
  ·have h2' : decide (y < x) = false := decide_eq_false h2
   have HE : Hid (cmpI x y = 0) := Lib.hid (by unfold cmpI; rw [if_neg h1, if_neg h2])
   go_enter Tryz.func89, Tryz.ntmps89
   go_wp2_with (go_at_call 97; refine (isnan_any _ _).mono ?_; rintro e w5 ⟨rfl, rfl⟩)
   go_ret
   exact ⟨by rw [HE.out]; rfl, rfl⟩
end Go.Proofs.YteiaeaciaglmgaaGreat
namespace Go.Proofs.YteiaeaciaglmgaaGreat
open Go.RowKit
def anyRow (rows : List (List Int)) (p : List Int → Bool) : Nat → Bool
 | 0 => false
 | k + 1 => anyRow rows p k || p (rowAt rows k)
theorem anyRow_of {rows : List (List Int)} {p : List Int → Bool} {k m : Nat} (h : anyRow rows p k = true) (hk : k ≤ m) : anyRow rows p m = true := by
 induction hk with
 | refl => exact h
 | step _ ih => simp [anyRow, ih]
end Go.Proofs.YteiaeaciaglmgaaGreat
namespace Go.Proofs.YteiaeaciaglmgaaGreat
open Go.RowKit Go.MapKept Go.Maps
section
variable {α : Type} [DecidableEq α]
def klook : List (α × Value) → α → Option Value
 | [], _ => none
 | (k, v) :: r, x => if k = x then some v else klook r x
def kset : List (α × Value) → α → Value → List (α × Value)
 | [], x, v => [(x, v)]
 | (k, u) :: r, x, v => if k = x then (k, v) :: r else (k, u) :: kset r x v
theorem klook_none {l : List (α × Value)} {x : α} (h : x ∉ l.map (·.1)) : klook l x = none ∧ ∀ v, kset l x v = l ++ [(x, v)] := by
 induction l with
 | nil => exact ⟨rfl, fun v => rfl⟩
 | cons p r ih =>
  obtain ⟨k, u⟩ := p
  simp only [List.map_cons, List.mem_cons, not_or] at h
  obtain ⟨h1, h2⟩ := ih h.2
  have hk : ¬ k = x := fun e => h.1 e.symm
  exact ⟨by simp only [klook, if_neg hk, h1], fun v => by simp only [kset, if_neg hk, h2 v, List.cons_append]⟩
theorem klook_at {l : List (α × Value)} (hn : (l.map (·.1)).Nodup) {j : Nat} {x : α} {v : Value} (h : l[j]? = some (x, v)) : klook l x = some v ∧ ∀ u, kset l x u = l.modify j (fun p => (p.1, u)) := by
 induction l generalizing j with
 | nil => simp at h
 | cons p r ih =>
  obtain ⟨k, u0⟩ := p
  simp only [List.map_cons, List.nodup_cons] at hn
  cases j with
  | zero =>
   simp only [List.getElem?_cons_zero, Option.some.injEq, Prod.mk.injEq] at h
   obtain ⟨rfl, rfl⟩ := h
   exact ⟨by simp [klook], fun u => by simp [kset, List.modify]⟩
  | succ j =>
   simp only [List.getElem?_cons_succ] at h
   obtain ⟨h1, h2⟩ := ih hn.2 h
   have hk : ¬ k = x := fun e => hn.1 (by rw [e]; exact List.mem_map.2 ⟨(x, v), List.mem_of_getElem? h, rfl⟩)
   exact ⟨by simp only [klook, if_neg hk, h1], fun u => by simp only [kset, if_neg hk, h2 u, List.modify_succ_cons]⟩
end
section
variable {α : Type}
variable {enc : α → Value}
variable {P : Program} {w : World} {T K E : TypeId} {r : Nat} {l : List (α × Value)}
theorem run_lookup_k [DecidableEq α] (C : KeyEnc P K enc) (hT : P.underlying T = some (.map K E)) {z : Value} (hz : (zeroValue E).run P w = .ok z w) (h : KMap enc w r l) (x : α) (ok : Bool) :
  (Instr.lookup T (.map (some r)) (enc x) ok).run P w = .ok (if ok then .tuple #[(klook l x).getD z, .bool (klook l x).isSome] else (klook l x).getD z) w := by
 have hn := h.nodup C
 obtain ⟨es, c, h1, h2, h3⟩ := h
 obtain ⟨kl, hkl⟩ := C.key x
 have hck : (Instr.checkKey es.isEmpty 10000 K (enc x)).run P w = .ok () w := C.law.check w es.isEmpty hkl
 have hg : (getObj r).run P w = .ok (.map es c) w := MapKept.run_getObj_map h1
 unfold Instr.lookup
 rcases C.law.find w hkl es.toList (KMap.keys C h3) with ⟨hf, q2⟩ | ⟨j, e, hf, q2, q3⟩
 ·have hx : x ∉ l.map (·.1) := by
   intro hm
   obtain ⟨p, hp, rfl⟩ := List.mem_map.1 hm
   have : (enc p.1, p.2) ∈ es.toList.map (fun e => (e.key, e.val)) := by rw [h3]; exact List.mem_map.2 ⟨p, hp, rfl⟩
   obtain ⟨e, he, hee⟩ := List.mem_map.1 this
   simp only [Prod.mk.injEq] at hee
   exact q2 e he hee.1
  simp [run_underlying hT, Result.andThen, hg, hck, hf, hz, (klook_none hx).1]
 ·have hj : l[j]? = some (x, e.val) := by
   have h4 := congrArg (fun L => L[j]?) h3
   simp only [List.getElem?_map, q2, Option.map_some] at h4
   cases hl : l[j]? with
   | none => rw [hl] at h4; cases h4
   | some p =>
    rw [hl] at h4
    simp only [Option.map_some, Option.some.injEq, Prod.mk.injEq] at h4
    obtain ⟨p1, p2⟩ := p
    simp only at h4
    have := C.inj (q3.symm.trans h4.1)
    rw [this, h4.2]
  simp [run_underlying hT, Result.andThen, hg, hck, hf, (klook_at hn hj).1]
theorem run_update_k [DecidableEq α] (C : KeyEnc P K enc) (hT : P.underlying T = some (.map K E)) (h : KMap enc w r l) (x : α) (v : Value) :
  ∃ w', (Instr.mapUpdate T (.map (some r)) (enc x) v).run P w = .ok () w' ∧ KMap enc w' r (kset l x v) ∧ w.grownBy w' (some r) ∧ w'.heap.size = w.heap.size := by
 have hn := h.nodup C
 obtain ⟨es, c, h1, h2, h3⟩ := h
 obtain ⟨kl, hkl⟩ := C.key x
 have hck : (Instr.checkKey false 10000 K (enc x)).run P w = .ok () w := C.law.check w false hkl
 have hg : (getObj r).run P w = .ok (.map es c) w := MapKept.run_getObj_map h1
 have keep : ∀ o : Obj, w.grownBy { w with heap := w.heap.setIfInBounds r o } (some r) := fun o =>
  ⟨rfl, rfl, rfl, by simp, fun k hk' hne => by simp only [Array.getElem?_setIfInBounds]; rw [if_neg (fun e => hne (by rw [e]))]⟩
 unfold Instr.mapUpdate
 rcases C.law.find w hkl es.toList (KMap.keys C h3) with ⟨hf, q2⟩ | ⟨j, e, hf, q2, q3⟩
 ·have hset := run_setObj_map (P := P) (.map (es.push { key := enc x, val := v, born := c }) (c + 1)) h1
  have hx : x ∉ l.map (·.1) := by
   intro hm
   obtain ⟨p, hp, rfl⟩ := List.mem_map.1 hm
   have : (enc p.1, p.2) ∈ es.toList.map (fun e => (e.key, e.val)) := by rw [h3]; exact List.mem_map.2 ⟨p, hp, rfl⟩
   obtain ⟨e, he, hee⟩ := List.mem_map.1 this
   simp only [Prod.mk.injEq] at hee
   exact q2 e he hee.1
  refine ⟨_, by simp [run_underlying hT, Result.andThen, hg, hck, hf, hset]; rfl, ⟨_, _, (heap_set h1).1, stamped_push h2 q2, ?_⟩, keep _, by simp⟩
  rw [(klook_none hx).2 v]
  simp [h3]
 ·have hj : l[j]? = some (x, e.val) := by
   have h4 := congrArg (fun L => L[j]?) h3
   simp only [List.getElem?_map, q2, Option.map_some] at h4
   cases hl : l[j]? with
   | none => rw [hl] at h4; cases h4
   | some p =>
    rw [hl] at h4
    simp only [Option.map_some, Option.some.injEq, Prod.mk.injEq] at h4
    obtain ⟨p1, p2⟩ := p
    simp only at h4
    have := C.inj (q3.symm.trans h4.1)
    rw [this, h4.2]
  have e1 : es[j]? = some e := by simpa using q2
  have hold : ((es[j]?).map (·.key)).getD (enc x) = enc x := by rw [e1]; simp [q3]
  have hstay : (Instr.keyThatStays (enc x) (enc x)).run P w = .ok (enc x) w := C.law.stays w hkl
  have hset := run_setObj_map (P := P) (.map (es.modify j fun e => { e with key := enc x, val := v }) c) h1
  refine ⟨_, by simp [run_underlying hT, Result.andThen, hg, hck, hf, hset, hold, hstay]; rfl, ⟨_, _, (heap_set h1).1, ?_, ?_⟩, keep _, by simp⟩
  ·refine stamped_modify h2 j _ (fun _ _ => rfl) (fun e' _ he' => ?_)
   rw [e1] at he'
   cases he'
   exact q3.symm
  ·rw [(klook_at hn hj).2 v]
   rw [Array.toList_modify]
   apply List.ext_getElem?
   intro i
   have h5 := congrArg (fun L => L[i]?) h3
   simp only [List.getElem?_map, List.getElem?_modify] at h5 ⊢
   by_cases hij : j = i
   ·subst hij
    simp only [if_true, q2, hj, Option.map_some]
    rfl
   ·simp only [if_neg hij, Option.map_map]
    simpa using h5
theorem wpList_wantK {ops : Array Oper} {rest : List Oper} {o : Oper} {a : Act} {Q : Exit → Act → World → Prop} (hw : Region.wanted o (yielded ops a.tmps) = true)
  (h : ∀ K : Act → World → Prop, (∀ a w, wpList P ops Q rest a w → K a w) → o.wp P a w K Q) : wpList P ops Q (o :: rest) a w :=
 wpList_step fun K hK => by rw [if_pos hw]; exact h K hK
/-- the operation m[x] -/
theorem wpList_lookup_k [DecidableEq α] {ops : Array Oper} {rest : List Oper} {o : Oper} {a : Act} {Q : Exit → Act → World → Prop} (C : KeyEnc P K enc) (hg : Region.wanted o (yielded ops a.tmps) = true) (m xo : Operand) (ok : Bool) (hop : o.op = Op.lookup T m xo ok)
  (hT : P.underlying T = some (.map K E)) {z : Value} (hz : (zeroValue E).run P w = .ok z w) (hm : a.eval m = .map (some r)) (h : KMap enc w r l) {x : α} (hx : a.eval xo = enc x)
  (hk : wpList P ops Q rest (a.put o.dst (if ok then .tuple #[(klook l x).getD z, .bool (klook l x).isSome] else (klook l x).getD z)) w) : wpList P ops Q (o :: rest) a w := by
 refine wpList_wantK hg fun K' hK' => ?_
 unfold Oper.wp
 simp only [execOp, hop, hm, hx]
 simp [run_lookup_k C hT hz h x ok, Result.andThen]
 exact hK' _ _ hk
/-- the operation m[x] = v -/
theorem wpList_update_k [DecidableEq α] {ops : Array Oper} {rest : List Oper} {o : Oper} {a : Act} {Q : Exit → Act → World → Prop} (C : KeyEnc P K enc) (hg : Region.wanted o (yielded ops a.tmps) = true) (m xo vo : Operand) (hop : o.op = Op.mapUpdate T m xo vo)
  (hT : P.underlying T = some (.map K E)) (hm : a.eval m = .map (some r)) (h : KMap enc w r l) {x : α} {v : Value} (hx : a.eval xo = enc x) (hv : a.eval vo = v)
  (hk : ∀ w', KMap enc w' r (kset l x v) → w.grownBy w' (some r) → w'.heap.size = w.heap.size → wpList P ops Q rest (a.put o.dst undef) w') : wpList P ops Q (o :: rest) a w := by
 refine wpList_wantK hg fun K' hK' => ?_
 obtain ⟨w', hrun, h1, h2, h3⟩ := run_update_k C hT h x v
 unfold Oper.wp
 simp only [execOp, hop, hm, hx, hv]
 simp [hrun, Result.andThen]
 exact hK' _ _ (hk w' h1 h2 h3)
end
end Go.Proofs.YteiaeaciaglmgaaGreat
namespace Go.Proofs.YteiaeaciaglmgaaGreat
open Go.RowKit Go.MapKept
section
variable {α : Type} {enc : α → Value} {P : Program} {w : World} {ops : Array Oper} {rest : List Oper} {o : Oper} {a : Act} {Q : Exit → Act → World → Prop}
theorem wpList_range_k {T K E : TypeId} {bm : Nat} {l : List (α × Value)} (hg : Region.wanted o (yielded ops a.tmps) = true) (m : Operand) (hop : o.op = Op.range T m) (hT : P.underlying T = some (.map K E)) (hm : a.eval m = .map (some bm)) (h : KMap enc w bm l)
  (hk : ∀ w', KIter enc w' bm w.heap.size l l → Below w.heap.size w w' → w'.heap.size = w.heap.size + 1 → wpList P ops Q rest (a.put o.dst (.pointer (some ⟨w.heap.size, 0, none⟩))) w') : wpList P ops Q (o :: rest) a w := by
 refine wpList_wantK hg fun K' hK' => ?_
 obtain ⟨es, c, hb, hs, he⟩ := h
 have hrun := run_range_map (P := P) w T K E bm es c hT hb
 unfold Oper.wp
 simp [execOp, hop, hm, hrun, Result.andThen]
 refine hK' _ _ (hk _ ?_ (box_below' _ _) (by simp))
 have hlt := (Array.getElem?_eq_some_iff.1 hb).1
 refine ⟨es, c, #[], c, (Below.heap_alloc w _ bm hlt).trans hb, heap_alloc_new w _, hs, Nat.le_refl _, he, ?_⟩
 have : leftOf es #[] = es := by unfold leftOf; simp
 rw [this, he]
theorem wpList_next_k {bm r : Nat} {l left : List (α × Value)} (hg : Region.wanted o (yielded ops a.tmps) = true) (it : Operand) (hop : o.op = Op.next it false) (hit : a.eval it = .pointer (some ⟨r, 0, none⟩)) (h : KIter enc w bm r l left) (hne : r ≠ bm)
  (hDone : left = [] → wpList P ops Q rest (a.put o.dst (.tuple #[.bool false])) w)
  (hMore : ∀ (A : List (α × Value)) (x : α) (v : Value) (B : List (α × Value)) (w' : World), left = A ++ (x, v) :: B → KIter enc w' bm r l (A ++ B) → w.grownBy w' (some r) → w'.heap.size = w.heap.size →
   (Instr.entry (.pointer (some ⟨r, 0, none⟩))).run P w' = .ok (.tuple #[enc x, v]) w' → wpList P ops Q rest (a.put o.dst (.tuple #[.bool true, enc x, v])) w') : wpList P ops Q (o :: rest) a w := by
 refine wpList_wantK hg fun K' hK' => ?_
 obtain ⟨es, c, seen, c0, hb, hr, hs, hc, he, hl⟩ := h
 unfold Oper.wp
 rcases run_next_at (P := P) w o.type r bm c c0 seen es c hr hb hs.1 hc with ⟨h0, hrun⟩ | ⟨e, hm, w1, hw1, hrun⟩
 ·simp [execOp, hop, hit, hrun, Result.andThen]
  refine hK' _ _ (hDone ?_)
  have : (leftOf es seen).toList = [] := List.eq_nil_of_length_eq_zero (by simpa using h0)
  rw [this] at hl
  simpa using hl.symm
 ·have hml := mem_left hm
  have hnd : ((leftOf es seen).toList.map (·.born)).Nodup := by
   unfold leftOf
   rw [Array.toList_filter]
   exact List.Nodup.sublist (List.Sublist.map _ List.filter_sublist) hs.2.1
  obtain ⟨A, B, hAB, hfo⟩ := filter_out hm hnd
  rw [hAB] at hl
  obtain ⟨A', p, B', hL, hp, hAB'⟩ := map_split hl
  obtain ⟨x, v⟩ := p
  simp only [Prod.mk.injEq] at hp
  have hlr := (Array.getElem?_eq_some_iff.1 hr).1
  have hw1s : w1.heap = w.heap := by rcases hw1 with rfl | rfl <;> rfl
  have hg1 : w.grownBy w1 (some r) := by rcases hw1 with rfl | rfl; exact grown_refl _ _; exact grown_drew _ _
  have hg2 : w1.grownBy (Go.ChangeMaps.setBlock w1 r (.mapIter (some bm) c (seen.push e.born) c)) (some r) := by
   refine ⟨rfl, rfl, rfl, by simp [Go.ChangeMaps.setBlock], fun k hk hne => ?_⟩
   simp only [Go.ChangeMaps.setBlock]
   rw [Array.getElem?_setIfInBounds_ne]
   intro e; exact hne (by rw [e])
  have hgw := grown_trans hg1 hg2
  have hsz : (Go.ChangeMaps.setBlock w1 r (.mapIter (some bm) c (seen.push e.born) c)).heap.size = w.heap.size := by simp [Go.ChangeMaps.setBlock, hw1s]
  have hr' : (Go.ChangeMaps.setBlock w1 r (.mapIter (some bm) c (seen.push e.born) c)).heap[r]? = some (.mapIter (some bm) c (seen.push e.born) c) := by
   simp only [Go.ChangeMaps.setBlock, hw1s]
   rw [Array.getElem?_setIfInBounds_self_of_lt hlr]
  have hb' : (Go.ChangeMaps.setBlock w1 r (.mapIter (some bm) c (seen.push e.born) c)).heap[bm]? = some (.map es c) :=
   (hgw.block bm (Array.getElem?_eq_some_iff.1 hb).1 (by simpa using fun e => hne e.symm)).trans hb
  have hen := run_entry_at (P := P) _ r bm c seen es c e hr' hb' hml.1 hs.2.1
  rw [hp.1, hp.2] at hen
  simp [execOp, hop, hit, hrun, Result.andThen]
  rw [hp.1, hp.2]
  refine hK' _ _ (hMore A' x v B' _ hL ⟨es, c, seen.push e.born, c, hb', hr', hs, Nat.le_refl _, he, ?_⟩ hgw hsz hen)
  rw [left_push, hfo, hAB']
end
end Go.Proofs.YteiaeaciaglmgaaGreat
namespace Go.Proofs.YteiaeaciaglmgaaGreat
theorem srt_ext : ∀ {l m : List (List Int)}, SrtL l → SrtL m → (∀ x, x ∈ l ↔ x ∈ m) → l = m
 | [], [], _, _, _ => rfl
 | [], b :: m, _, _, h => by have := (h b).2 (by simp); cases this
 | a :: l, [], _, _, h => by have := (h a).1 (by simp); cases this
 | a :: l, b :: m, hl, hm, h => by
  have hl' := List.pairwise_cons.1 hl
  have hm' := List.pairwise_cons.1 hm
  have hab : a = b := by
   rcases List.mem_cons.1 ((h a).1 (by simp)) with e | e
   ·exact e
   ·rcases List.mem_cons.1 ((h b).2 (by simp)) with e' | e'
    ·exact e'.symm
    ·have h1 := hm'.1 a e
     have h2 := hl'.1 b e'
     rw [ltL_asymm h1] at h2
     cases h2
  subst hab
  rw [srt_ext hl'.2 hm'.2 (fun x => ?_)]
  constructor
  ·intro hx
   rcases List.mem_cons.1 ((h x).1 (List.mem_cons_of_mem _ hx)) with e | e
   ·exact absurd e (ltL_ne (hl'.1 x hx)).symm
   ·exact e
  ·intro hx
   rcases List.mem_cons.1 ((h x).2 (List.mem_cons_of_mem _ hx)) with e | e
   ·exact absurd e (ltL_ne (hm'.1 x hx)).symm
   ·exact e
end Go.Proofs.YteiaeaciaglmgaaGreat
namespace Go.Proofs.YteiaeaciaglmgaaGreat
theorem nodup_lenG {α : Type} [DecidableEq α] : ∀ {l m : List α}, l.Nodup → (∀ x ∈ l, x ∈ m) → l.length ≤ m.length
 | [], m, _, _ => by simp
 | a :: l, m, hn, hs => by
  have h' := List.nodup_cons.1 hn
  have ih := nodup_lenG (l := l) (m := m.erase a) h'.2 (fun x hx => (List.mem_erase_of_ne (fun e => h'.1 (by rw [← e]; exact hx))).2 (hs x (List.mem_cons_of_mem _ hx)))
  have hm := hs a (List.mem_cons_self ..)
  have := List.length_erase_of_mem hm
  have := List.length_pos_of_mem hm
  simp only [List.length_cons]
  omega
/-- are there too many assignments behind one of the first k lots? -/
def manyTo (f : Flow) : Nat → Bool
 | 0 => false
 | k + 1 => manyTo f k || decide (5040 < (asgTo f (k + 1)).length)
def allE (f : Flow) : Int := if checkE f ≠ 0 then checkE f else if 8 < f.senders then 2 else if manyTo f f.lots.length then 2 else 0
def allR (f : Flow) : List (List Int) := if allE f = 0 then asgL f else []
def possB (f : Flow) (a : List Int) : Bool := decide (allE f = 0) && decide (a ∈ asgL f)
end Go.Proofs.YteiaeaciaglmgaaGreat
namespace Go.Proofs.YteiaeaciaglmgaaGreat
def idL (n : Nat) : List Int := (List.range n).map Int.ofNat
theorem idL_perm (n : Nat) : permB (idL n) (n : Int) = true := by
 unfold permB inB diffB idL
 simp only [Bool.and_eq_true, decide_eq_true_eq, List.all_eq_true, List.mem_map, List.mem_range, List.length_map, List.length_range, true_and]
 refine ⟨?_, List.pairwise_map.2 (List.nodup_range.imp fun {a b} hne e => hne (by have e' : (a : Int) = (b : Int) := e; omega))⟩
 rintro x ⟨a, ha, rfl⟩
 exact ⟨by simp, by simp; omega⟩
end Go.Proofs.YteiaeaciaglmgaaGreat
namespace Go.Proofs.YteiaeaciaglmgaaGreat
open Go.RowKit
def permsTo (n r : Nat) (b : List Int) (x : Nat) : List (List Int) := (List.range x).flatMap fun (y : Nat) => if hasB b (y : Int) then [] else permsF n r (b ++ [(y : Int)])
theorem permsTo_in {n r : Nat} {b : List Int} {x : Nat} (h : hasB b (x : Int) = true) : permsTo n r b (x + 1) = permsTo n r b x := by
 unfold permsTo
 rw [List.range_succ, List.flatMap_append]
 simp [h]
theorem permsTo_out {n r : Nat} {b : List Int} {x : Nat} (h : hasB b (x : Int) = false) : permsTo n r b (x + 1) = permsTo n r b x ++ permsF n r (b ++ [(x : Int)]) := by
 unfold permsTo
 rw [List.range_succ, List.flatMap_append]
 simp [h]
theorem permsTo_all (n r : Nat) (b : List Int) : permsTo n r b n = permsF n (r + 1) b := rfl
theorem permsTo_pre {n r : Nat} {b : List Int} {x m : Nat} (h : x ≤ m) : ∃ t, permsTo n r b m = permsTo n r b x ++ t := by
 induction h with
 | refl => exact ⟨[], by simp⟩
 | @step m _ ih =>
  obtain ⟨t, ht⟩ := ih
  cases hb : hasB b (m : Int) with
  | true => exact ⟨t, by rw [permsTo_in hb, ht]⟩
  | false => exact ⟨t ++ permsF n r (b ++ [(m : Int)]), by rw [permsTo_out hb, ht, List.append_assoc]⟩
theorem StandsAt.sub {L : List (List Int)} {i : Nat} {M1 M2 M3 : List (List Int)} (h : StandsAt L i (M1 ++ (M2 ++ M3))) : StandsAt L (i + M1.length) M2 := by
 obtain ⟨A, C, rfl, rfl⟩ := h
 exact ⟨A ++ M1, M3 ++ C, by simp [List.append_assoc], by simp⟩
theorem stands_step {n r : Nat} {b : List Int} {L : List (List Int)} {i x : Nat} (h : StandsAt L i (permsF n (r + 1) b)) (hx : x < n) (hb : hasB b (x : Int) = false) : StandsAt L (i + (permsTo n r b x).length) (permsF n r (b ++ [(x : Int)])) := by
 obtain ⟨t, ht⟩ := permsTo_pre (n := n) (r := r) (b := b) (show x + 1 ≤ n by omega)
 rw [permsTo_out hb] at ht
 rw [← permsTo_all, ht, List.append_assoc] at h
 exact h.sub
theorem Begins.snoc {n : Nat} {b : List Int} {x : Nat} (h : Begins n b) (hx : x < n) (hb : hasB b (x : Int) = false) : Begins n (b ++ [(x : Int)]) := by
 have hnb : (x : Int) ∉ b := fun hm => by rw [hasB_mem.2 hm] at hb; cases hb
 refine ⟨List.nodup_append.2 ⟨h.1, by simp, fun y hy z hz e => ?_⟩, fun y hy => ?_⟩
 ·obtain rfl := List.mem_singleton.1 hz
  subst e
  exact hnb hy
 ·rcases List.mem_append.1 hy with hy | hy
  ·exact h.2 y hy
  ·obtain rfl := List.mem_singleton.1 hy
   omega
theorem IsIntsX.ints {X : Nat → Prop} {w : World} {v : Value} {xs : List Int} (h : IsIntsX X w v xs) : IsInts w.heap.size w v xs := by
 obtain ⟨b, off, cap, h1, h2, h3, h4⟩ := h
 exact ⟨b, off, cap, h1, h2, h3, fun j hj => ⟨(h4 j hj).2.1, (h4 j hj).2.2⟩⟩
theorem RowAt.ints {B0 pa n : Nat} {b : List Int} {W : World} {X : Nat → Prop} (h : RowAt B0 pa n b W) (hb : ∀ x ∈ b, I64 x) (hX : X pa) (hl : b.length ≤ 17592186043904) : IsIntsX X W (.slice (some ⟨pa, 0, none⟩) b.length n) b := by
 have hlt := h.lt
 rcases h.2 with ⟨hn, _⟩ | ⟨g, cap, cur, hv, hb', hg, h1, h2, h3, h4⟩
 ·cases hn
 ·cases hv
  refine ⟨pa, 0, n, ⟨_, rfl, h1, by unfold maxLen at h2; omega, Or.inl rfl⟩, hl, hb, fun j hj => ⟨hX, hlt.1, ?_⟩⟩
  have hlt' : j < cur.size := by omega
  simp only [World.cell?, hg, Nat.zero_add]
  have : (cur.toList.take (b.length * 1))[j]? = (b.map (Value.int .i64))[j]? := by rw [h4]
  rw [List.getElem?_take, if_pos (by omega)] at this
  simp only [List.getElem?_map, List.getElem?_eq_getElem hj, Option.map_some] at this
  rw [nth_eq_getElem hj]
  simpa using this
/-- what the closure finds: its list, how long it becomes, the function to be called, itself -/
structure ExtW (B0 l n pa pc nc yc ec : Nat) (b : List Int) (W : World) : Prop where
 p : Cell1 W pc (.slice (some ⟨pa, 0, none⟩) b.length n)
 row : RowAt B0 pa n b W
 n : Box W nc #[.int .i64 (n : Int)]
 y : Box W yc #[.func (.yield l) #[] #[]]
 e : Box W ec #[.func (.func 87) #[] #[.pointer (some ⟨pc, 0, none⟩), .pointer (some ⟨nc, 0, none⟩), .pointer (some ⟨yc, 0, none⟩), .pointer (some ⟨ec, 0, none⟩)]]
theorem ExtW.turned {B0 l n pa pc nc yc ec : Nat} {b : List Int} {W W' : World} {X : Nat → Prop} (h : ExtW B0 l n pa pc nc yc ec b W) (ht : Turned X W W') (hx : ¬ X pa ∧ ¬ X pc ∧ ¬ X nc ∧ ¬ X yc ∧ ¬ X ec) : ExtW B0 l n pa pc nc yc ec b W' :=
 ⟨h.p.turned ht hx.2.1, h.row.turned ht hx.1, h.n.turned ht hx.2.2.1, h.y.turned ht hx.2.2.2.1, h.e.turned ht hx.2.2.2.2⟩
theorem room_none (k : Nat) : Fence.wide.room k := fun d h => by cases h
theorem yield_depth {m : Nat} (m' : Nat) {P : Program} {l : Nat} {args : Array Value} {W : World} {R : Ending → World → Prop} (h : YieldAt Fence.wide m P l args W R) : YieldAt Fence.wide m' P l args W R := by
 obtain ⟨fn, tmps, assign, body, hy, h1, h2⟩ := h
 exact ⟨fn, tmps, assign, body, hy, h1, fun c cs _ => h2 c cs (room_none _)⟩
end Go.Proofs.YteiaeaciaglmgaaGreat
namespace Go.Proofs.YteiaeaciaglmgaaGreat
open Go.RowKit
attribute [local go_sem] Oper.semAt_some
/-- append(s, n) where there is room -/
theorem append_fitIn {ops : Array Oper} {rest : List Oper} {o : Oper} {a : Act} {w : World} {Q : Exit → Act → World → Prop} {F : Fence} {m : Nat} (hgd : o.guard = none) (s x : Operand)
  (ho : o.op = .call { callee := .builtin .append, args := #[s, x], argTypes := #[25, 25] })
  {B0 pa n : Nat} {b : List Int} {v : Int} {g c : Nat} (hs : a.eval s = .slice (some ⟨pa, 0, none⟩) b.length n) (hrow : RowAt B0 pa n b w) (hx : a.eval x = .slice (some ⟨g, 0, none⟩) 1 c)
  (hg : w.cell? ⟨g, 0, none⟩ = some (.int .i64 v)) (hlen : b.length + 1 ≤ n)
  (h : ∀ w', RowAt B0 pa n (b ++ [v]) w' → w.grownBy w' (some pa) → wpListIn F m Tryz.prog ops Q rest (a.put o.dst (.slice (some ⟨pa, 0, none⟩) (b ++ [v]).length n)) w') : wpListIn F m Tryz.prog ops Q (o :: rest) a w := by
 obtain ⟨i0, hi, hz0, hz1, hz2⟩ := info_parts int_info
 refine wpListIn_append_fits w hgd s x 25 ho B0 3 i0 1 Tryz.underlying25 hi hz1 pa b.length n (b.map (Value.int .i64)) hs hrow ⟨g, 0, none⟩ 1 c [.int .i64 v] hx rfl ?_ ?_ hlen ?_
 ·intro j u hj
  match j, hj with
  | 0, hj => simp at hj; subst hj; simpa [Addr.add] using hg
 ·intro u hu; simp at hu; subst hu; rfl
 ·intro w' h1 h2
  have e : (b ++ [v]).length = b.length + 1 := by simp
  rw [e] at h
  refine h w' ?_ h2
  unfold RowAt
  rw [e]
  simpa using h1
/-- how the closure ends -/
def ExtPost (B0 l n pa pc nc yc ec s N : Nat) (J Jx : Nat → World → Prop) (b : List Int) (i : Nat) (e : Ending) (W' : World) : Prop :=
 (e = .returned (.bool true) ∧ ExtW B0 l n pa pc nc yc ec b W' ∧ J i W' ∧ s ≤ W'.heap.size) ∨ (e = .returned (.bool false) ∧ (∃ i', i' < N ∧ Jx i' W') ∧ s ≤ W'.heap.size)
set_option maxHeartbeats 4000000 in
set_option maxRecDepth 100000 in
theorem extend_any (l n pa pc nc yc ec B0 s N : Nat) (X : Nat → Prop) (L : List (List Int)) (hL : L.length = N) (hn : n ≤ 17592186043904) (ob : Nat → Prop) (J Jx : Nat → World → Prop)
  (hd : pa ≠ pc ∧ yc ≠ pa ∧ yc ≠ pc ∧ ec ≠ pa ∧ ec ≠ pc) (hB : B0 ≤ pa ∧ B0 ≤ pc ∧ B0 ≤ yc ∧ B0 ≤ ec ∧ pa < s ∧ pc < s ∧ yc < s ∧ ec < s) (hnc : nc < B0) (hob : ∀ k, ob k → k < B0 ∧ k ≠ nc) (hX : X pa)
  (hJ : ∀ i A B, J i A → Turned (fun k => B0 ≤ k ∧ k < s) A B → J i B)
  (hY : ∀ i W args, s ≤ W.heap.size → i < N → J i W → (∃ v, args = #[v] ∧ IsIntsX X W v (L.getD i [])) → YieldAt Fence.wide 9 Tryz.prog l args W fun e W' =>
   (e = .returned (.bool true) ∧ J (i + 1) W' ∧ Turned (fun k => ob k ∨ s ≤ k) W W') ∨ (e = .returned (.bool false) ∧ Jx i W' ∧ Turned (fun k => ob k ∨ s ≤ k) W W')) :
  ∀ (r m : Nat) (b : List Int) (i : Nat) (W : World), Begins n b → b.length + r = n → StandsAt L i (permsF n r b) → s ≤ W.heap.size → ExtW B0 l n pa pc nc yc ec b W → J i W →
   CallsIn Fence.wide m Tryz.prog 87 #[.pointer (some ⟨pc, 0, none⟩), .pointer (some ⟨nc, 0, none⟩), .pointer (some ⟨yc, 0, none⟩), .pointer (some ⟨ec, 0, none⟩)] W
    (ExtPost B0 l n pa pc nc yc ec s N J Jx b (i + (permsF n r b).length)) := by
 intro r
 induction r with
 | zero =>
  intro m b i W hb hbr hst hs hE hj
  have hbl : b.length = n := by omega
  obtain ⟨hiN, hib⟩ := hst.one
  have HIN := Lib.hid hiN
  have hI64 : ∀ x ∈ b, I64 x := fun x hx => by have := hb.2 x hx; unfold I64; omega
  have hval := hE.row.ints (X := X) hI64 hX (by omega)
  have HY := Lib.hid (yield_depth (m - 1) (hY i W #[.slice (some ⟨pa, 0, none⟩) b.length n] hs (by omega) hj ⟨_, rfl, by rw [hib]; exact hval⟩))
  have HE := Lib.hid hE
  obtain ⟨z1, c1⟩ := hE.p.box
  obtain ⟨z2, c2⟩ := hE.n
  obtain ⟨z3, c3⟩ := hE.y
  have d1 := c1 0
  have d2 := c2 0
  have d3 := c3 0
  simp only [List.getElem?_toArray, List.getElem?_cons_zero] at d1 d2 d3
  obtain ⟨fn, tmps, assign, body, hy, hR⟩ := HY.out
  have HR := Lib.hid hR
  have HB := Lib.hid hB
  have HOB := Lib.hid hob
  have HS := Lib.hid hs
  have HNC := Lib.hid hnc
  have HLL := Lib.hid hL
  have hq : ((b.length : Int) == (n : Int)) = true := by rw [hbl]; simp
  have hdp : Fence.wide.depth.isSome = true → 1 ≤ m := fun h => by cases h
  clear hb hbr hst hE hj hib hI64 hval HY hR hB hob hY hJ c1 c2 c3 hX z1 z2 z3 hL hiN hs hnc hn hbl
  refine callsIn_of_wp Tryz.func87 rfl trivial ?_ rfl
  simp only [Tryz.ntmps87, List.size_toArray, List.length_cons, List.length_nil, Nat.reduceAdd, Nat.reduceSub, Array.replicate_succ, Array.replicate_zero, List.push_toArray, List.append_toArray, List.nil_append, List.cons_append]
  gi_wp2
  refine ⟨hdp, HR.out.mono ?_⟩
  rintro e W' (⟨rfl, hJ', ht⟩ | ⟨rfl, hJx', ht⟩)
  ·gi_wp2
   go_ret
   have hb := HB.out
   have hnc := HNC.out
   refine Or.inl ⟨rfl, HE.out.turned ht ?_, ?_, ?_⟩
   ·refine ⟨fun h => ?_, fun h => ?_, fun h => ?_, fun h => ?_, fun h => ?_⟩ <;> rcases h with h | h
    all_goals first | omega | (have := HOB.out _ h; omega)
   ·simpa [permsF] using hJ'
   ·have := ht.size; have := HS.out; omega
  ·gi_wp2
   go_ret
   exact Or.inr ⟨rfl, ⟨_, by rw [← HLL.out]; exact HIN.out, hJx'⟩, by have := ht.size; have := HS.out; omega⟩
 | succ r ih =>
  intro m b i W hb hbr hst hs hE hj
  have hbl : b.length < n := by omega
  have hq : ((b.length : Int) == (n : Int)) = false := by simp; omega
  have HI64 : Hid (∀ x ∈ b, I64 x) := Lib.hid (fun x hx => by have := hb.2 x hx; unfold I64; omega)
  have HBL := Lib.hid hbl
  have HN := Lib.hid hn
  have HST := Lib.hid hst
  have HBG := Lib.hid hb
  have HBR := Lib.hid hbr
  have HE0 := Lib.hid hE
  have HJ0 := Lib.hid hj
  have HS0 := Lib.hid hs
  have HB := Lib.hid hB
  have HD := Lib.hid hd
  have HJ := Lib.hid hJ
  have HX := Lib.hid hX
  have HNC := Lib.hid hnc
  have HIH := Lib.hid ih
  obtain ⟨z1, c1⟩ := hE.p.box
  obtain ⟨z2, c2⟩ := hE.n
  have d1 := c1 0
  have d2 := c2 0
  simp only [List.getElem?_toArray, List.getElem?_cons_zero] at d1 d2
  have hdp : Fence.wide.depth.isSome = true → 1 ≤ m := fun h => by cases h
  have hn9 : (n : Int) ≤ 17592186043904 := by omega
  have HBL9 := Lib.hid (show b.length ≤ 17592186043904 by omega)
  clear hb hbr hst hE hj hB hob hY hJ c1 c2 hX z1 z2 hL hs hnc hn hbl ih hd
  refine callsIn_of_wp Tryz.func87 rfl trivial ?_ rfl
  simp only [Tryz.ntmps87, List.size_toArray, List.length_cons, List.length_nil, Nat.reduceAdd, Nat.reduceSub, Array.replicate_succ, Array.replicate_zero, List.push_toArray, List.append_toArray, List.nil_append, List.cons_append]
  gi_wp2
  gi_loopw [5, 14] (fun u iv wr => ∃ x : Nat, x ≤ n ∧ iv = .int .i64 x ∧ ExtW B0 l n pa pc nc yc ec b wr ∧ J (i + (permsTo n r b x).length) wr ∧ s ≤ wr.heap.size) (fun u iv _ => n - (intOf iv).toNat)
  case atStart => exact ⟨0, by omega, rfl, HE0.out, by simpa [permsTo] using HJ0.out, HS0.out⟩
  case round =>
   obtain ⟨x, hx, rfl, hE, hj, hs⟩ := hrel
   obtain ⟨w0, rfl⟩ : ∃ w0 : World, w0 = wr := ⟨_, rfl⟩
   have HE := Lib.hid hE
   have HJ1 := Lib.hid hj
   have HS1 := Lib.hid hs
   obtain ⟨z1, c1⟩ := hE.p.box
   have e1 := c1 0
   simp only [List.getElem?_toArray, List.getElem?_cons_zero] at e1
   clear hE hj hs z1 c1 d1 d2
   by_cases hlt : x < n
   ·have HCC := Lib.hid (scontains_any _ _ _ b (x : Int) (HE.out.row.ints (X := fun _ => True) HI64.out trivial HBL9.out).ints)
    cases hbx : hasB b (x : Int)
    ·rw [hbx] at HCC
     have HBX := Lib.hid hbx
     have HLT := Lib.hid hlt
     have hroom : b.length + 1 ≤ n := by have := HBL.out; omega
     clear hbx
     gi_wp2_with (first
      | (refine ⟨trivial, hdp, ?_⟩; gi_at_call 54; refine (callsIn_wide.2 HCC.out).mono ?_; rintro e w5 ⟨rfl, hw5⟩; obtain rfl := hw5.symm)
      | (gi_at_builtin; (refine append_fitIn (v := (x : Int)) rfl _ _ rfl rfl (HE.out.row.turned (X := fun _ => False) (Turned.of_below (box_below' _ _)) (fun h => h)) rfl ?c1 hroom ?c2)))
     case c1 => exact (Cell1.new _ _ _).cell
     case c2 =>
      intro w6 hrow6 hg6
      have hT6 : Turned (fun k => k = pa) w0 w6 := (Turned.of_below (box_below' w0 _)).trans (Turned.of_grown hg6 (fun k e => by cases e; rfl))
      have hC6 := HE.out.p.turned hT6 (fun h => HD.out.1 h.symm)
      have f1 := hC6.cell
      have f2 := hC6.free
      have hlen : (b ++ [(x : Int)]).length = b.length + 1 := by simp
      have hT7 : Turned (fun k => B0 ≤ k ∧ k < s) w0 (w6.setCell ⟨pc, 0, none⟩ (.slice (some ⟨pa, 0, none⟩) (b ++ [(x : Int)]).length n)) :=
       (hT6.mono fun k _ h => by have := HB.out; omega).trans (Turned.of_grown (grown_setCell w6 ⟨pc, 0, none⟩ _) (fun k e => by injection e with e; subst e; exact ⟨HB.out.2.1, HB.out.2.2.2.2.2.1⟩))
      have hE7 : ExtW B0 l n pa pc nc yc ec (b ++ [(x : Int)]) (w6.setCell ⟨pc, 0, none⟩ (.slice (some ⟨pa, 0, none⟩) (b ++ [(x : Int)]).length n)) := by
       have hTs : Turned (fun k => k = pa ∨ k = pc) w0 (w6.setCell ⟨pc, 0, none⟩ (.slice (some ⟨pa, 0, none⟩) (b ++ [(x : Int)]).length n)) :=
        (hT6.mono fun k _ h => Or.inl h).trans (Turned.of_grown (grown_setCell w6 ⟨pc, 0, none⟩ _) (fun k e => by cases e; exact Or.inr rfl))
       have hd := HD.out
       have hb := HB.out
       have hn := HNC.out
       exact ⟨hC6.set _, hrow6.turned (X := fun k => k = pc) (Turned.of_grown (grown_setCell w6 ⟨pc, 0, none⟩ _) (fun k e => by cases e; rfl)) (fun h => hd.1 h),
        HE.out.n.turned hTs (fun h => by omega), HE.out.y.turned hTs (fun h => by omega), HE.out.e.turned hTs (fun h => by omega)⟩
      have HE7 := Lib.hid hE7
      have HJ7 := Lib.hid (HJ.out _ _ _ HJ1.out hT7)
      have HS7 := Lib.hid (Nat.le_trans HS1.out hT7.size)
      obtain ⟨z3, c3⟩ := hE7.e
      have e3 := c3 0
      simp only [List.getElem?_toArray, List.getElem?_cons_zero] at e3
      clear hE7 c3 z3 hT7 hT6 hC6 hrow6 hg6
      rw [hlen] at e3 HE7 HJ7 HS7
      gi_wp2
      refine ⟨trivial, hdp, (HIH.out (m - 1) _ _ _ (HBG.out.snoc HLT.out HBX.out) (by rw [hlen]; have := HBR.out; omega) (stands_step HST.out HLT.out HBX.out) HS7.out HE7.out HJ7.out).mono ?_⟩
      rintro e W3 (⟨rfl, hE3, hj3, hs3⟩ | ⟨rfl, hx3, hs3⟩)
      ·have HE3 := Lib.hid hE3
       have HJ3 := Lib.hid hj3
       have HS3 := Lib.hid hs3
       have g1 := hE3.p.cell
       have g2 := hE3.p.free
       clear hE3 hj3 hs3 e3 f1 f2
       rw [hlen] at g1
       have hbl9 : (b.length : Int) ≤ 17592186043904 := by have := HBL9.out; omega
       gi_wp2
       go_roundw
       case rel =>
        have hd := HD.out
        have hb := HB.out
        have hn := HNC.out
        have hTs : ∀ v, Turned (fun k => k = pc) W3 (W3.setCell ⟨pc, 0, none⟩ v) := fun v => Turned.of_grown (grown_setCell W3 ⟨pc, 0, none⟩ _) (fun k e => by cases e; rfl)
        refine ⟨x + 1, by omega, by go_num, ?_, ?_, ?_⟩
        ·have hp := HE3.out.p.set (.slice (some ⟨pa, 0, none⟩) b.length n)
         have hr := HE3.out.row.cut.turned (hTs (.slice (some ⟨pa, 0, none⟩) b.length n)) (fun h => hd.1 h)
         have q1 := HE3.out.n.turned (hTs (.slice (some ⟨pa, 0, none⟩) b.length n)) (fun h => by omega)
         have q2 := HE3.out.y.turned (hTs (.slice (some ⟨pa, 0, none⟩) b.length n)) (fun h => by omega)
         have q3 := HE3.out.e.turned (hTs (.slice (some ⟨pa, 0, none⟩) b.length n)) (fun h => by omega)
         have hE : ExtW B0 l n pa pc nc yc ec b (W3.setCell ⟨pc, 0, none⟩ (.slice (some ⟨pa, 0, none⟩) b.length n)) := ⟨hp, hr, q1, q2, q3⟩
         exact hE
        ·rw [permsTo_out HBX.out, List.length_append, ← Nat.add_assoc]
         exact HJ.out _ _ _ HJ3.out ((hTs _).mono fun k _ h => by rw [h]; exact ⟨hb.2.1, hb.2.2.2.2.2.1⟩)
        ·exact Nat.le_trans HS3.out (hTs _).size
       case measure => simp [intOf]; omega
      ·gi_wp2
       go_ret
       exact Or.inr ⟨rfl, hx3, hs3⟩
    ·rw [hbx] at HCC
     have HBX := Lib.hid hbx
     clear hbx
     gi_wp2_with (refine ⟨trivial, hdp, ?_⟩; gi_at_call 54; refine (callsIn_wide.2 HCC.out).mono ?_; rintro e w5 ⟨rfl, hw5⟩; obtain rfl := hw5.symm)
     go_roundw
     case rel => exact ⟨x + 1, by omega, by go_num, HE.out, by rw [permsTo_in HBX.out]; exact HJ1.out, HS1.out⟩
     case measure => simp [intOf]; omega
   ·obtain rfl : x = n := by omega
    gi_wp2
    go_ret
    exact Or.inl ⟨rfl, HE.out, by rw [← permsTo_all]; exact HJ1.out, HS1.out⟩
end Go.Proofs.YteiaeaciaglmgaaGreat
namespace Go.Proofs.YteiaeaciaglmgaaGreat
open Go.RowKit
attribute [local go_sem] Oper.semAt_some
attribute [local go_sem] run_store_func
/-- the lists that an iterator hands over, below block B or in blocks of its own -/
def EncP (B : Nat) (L : List (List Int)) (base i : Nat) (W : World) (args : Array Value) : Prop := ∃ v, args = #[v] ∧ IsIntsX (fun k => k < B ∨ base ≤ k) W v (L.getD i [])
set_option maxHeartbeats 4000000 in
set_option maxRecDepth 100000 in
theorem perms_iter (B bn n : Nat) (w : World) (hn : n ≤ 100000) (hx : Box w bn #[.int .i64 (n : Int)]) :
  IterB Tryz.prog 86 #[.pointer (some ⟨bn, 0, none⟩)] (permsL n).length (EncP B (permsL n)) (fun k => k < B ∨ k = bn) w := by
 intro l ob W J Jx hwW hob hJ hJx hst hY
 have hxW := hx.turned hwW (fun h => h (Or.inr rfl))
 have HX := Lib.hid hxW
 have HOB := Lib.hid hob
 have HJ := Lib.hid hJ
 have HST := Lib.hid hst
 have HY := Lib.hid hY
 have HN := Lib.hid hn
 have hn9 : (n : Int) ≤ 100000 := by omega
 obtain ⟨zx, rx⟩ := hxW
 have r0 := rx 0
 simp only [List.getElem?_toArray, List.getElem?_cons_zero] at r0
 clear hob hJ hJx hst hY rx hx hwW hn
 have hmf := @run_makeFunc_any Tryz.prog
 obtain ⟨i0, hi, hz0, hz1, hz2⟩ := info_parts int_info
 have HI := Lib.hid hi
 refine callsIn_of_wp Tryz.func86 rfl trivial ?_ rfl
 simp only [Tryz.ntmps86, List.size_toArray, List.length_cons, List.length_nil, Nat.reduceAdd, Nat.reduceSub, Array.replicate_succ, Array.replicate_zero, List.push_toArray, List.append_toArray, List.nil_append, List.cons_append]
 gi_wp2_with (gi_at_make; refine wpListIn_make_own _ rfl _ _ 25 rfl W.heap.size 3 i0 (.int .i64 0) 1 Tryz.underlying25 HI.out hz0 hz1 .i64 .i64 (n : Int) n rfl rfl rfl ?b1 ?b2 ?b3 ?b4)
 case b1 => have := HN.out; omega
 case b2 => unfold maxLen; have := HN.out; omega
 case b4 =>
  intro w2 hr2 hg2
  clear hi
  have hsz : (W.alloc (.cells #[.func (.yield l) #[] #[]] 54)).heap.size = W.heap.size + 1 := by simp
  have hrow2 : RowAt W.heap.size (W.heap.size + 1) n [] w2 := by unfold RowAt; simpa [hsz] using hr2
  have hw2 := hg2.size
  rw [hsz] at hw2
  have HR2 := Lib.hid hrow2
  have HG2 := Lib.hid hg2
  have HW2 := Lib.hid hw2
  have HZX := Lib.hid zx
  clear hr2 hrow2 hg2 hw2 hsz hz0 hz1 hz2
  gi_wp2
  obtain ⟨w5, hw5⟩ : ∃ w5, w2.alloc (.cells #[.slice (some ⟨W.heap.size + 1, 0, none⟩) 0 n] 25) = w5 := ⟨_, rfl⟩
  have HC5 : Hid (Cell1 w5 w2.heap.size (.slice (some ⟨W.heap.size + 1, 0, none⟩) 0 n)) := Lib.hid (by rw [← hw5]; exact Cell1.new _ _ _)
  have hT5 : Turned (fun _ => False) w2 w5 := by rw [← hw5]; exact Turned.of_below (box_below' _ _)
  have hs5 : w5.heap.size = w2.heap.size + 1 := by rw [← hw5]; simp
  rw [hw5]
  clear hw5
  obtain ⟨w6, hw6⟩ : ∃ w6, w5.alloc (.cells #[.func (.func 87) #[] #[.pointer (some ⟨w2.heap.size, 0, none⟩), .pointer (some ⟨bn, 0, none⟩), .pointer (some ⟨W.heap.size, 0, none⟩), .pointer (some ⟨w2.heap.size + 1, 0, none⟩)]] 26) = w6 := ⟨_, rfl⟩
  have hT6 : Turned (fun _ => False) w5 w6 := by rw [← hw6]; exact Turned.of_below (box_below' _ _)
  have hs6 : w6.heap.size = w2.heap.size + 2 := by rw [← hw6]; simp [hs5]
  have hbe : Box w6 (w2.heap.size + 1) #[.func (.func 87) #[] #[.pointer (some ⟨w2.heap.size, 0, none⟩), .pointer (some ⟨bn, 0, none⟩), .pointer (some ⟨W.heap.size, 0, none⟩), .pointer (some ⟨w2.heap.size + 1, 0, none⟩)]] := by
   rw [← hw6, ← hs5]; exact Box.new _ _ _
  rw [hw6]
  clear hw6
  have hT0 : Turned (fun _ => False) (W.alloc (.cells #[.func (.yield l) #[] #[]] 54)) w6 := ((Turned.of_grown HG2.out (fun k e => by cases e)).trans hT5).trans hT6
  have hTW : Turned (fun _ => False) W w6 := (Turned.of_below (box_below' W _)).trans hT0
  have hE : ExtW W.heap.size l n (W.heap.size + 1) w2.heap.size bn W.heap.size (w2.heap.size + 1) [] w6 :=
   ⟨HC5.out.turned hT6 (fun h => h), HR2.out.turned (hT5.trans hT6) (fun h => h), HX.out.turned hTW (fun h => h), (Box.new W _ _).turned hT0 (fun h => h), hbe⟩
  have hB6 : Below W.heap.size W w6 := hTW.below (Nat.le_refl _) (fun _ _ h => h)
  have hw2 := HW2.out
  have hJ0 := HST.out (w2.heap.size + 2) w6 (by omega) (by omega) hB6
  have hzx := HZX.out
  have hlt2 := HR2.out.lt.1
  refine ⟨trivial, (extend_any l n (W.heap.size + 1) w2.heap.size bn W.heap.size (w2.heap.size + 1) W.heap.size (w2.heap.size + 2) (permsL n).length (fun k => k < B ∨ W.heap.size ≤ k) (permsL n) rfl (by have := HN.out; omega) ob (J (w2.heap.size + 2)) (Jx (w2.heap.size + 2))
   (by omega) (by omega) hzx (fun k hk => ⟨(HOB.out k hk).1, fun e => (HOB.out k hk).2 (Or.inr e)⟩) (Or.inr (by omega)) (fun i A B h ht => HJ.out _ _ _ _ (by omega) h ht)
   (fun i A args h1 h2 h3 h4 => HY.out _ _ _ _ (by omega) h1 h2 h3 h4) n 9 [] 0 w6 ⟨List.nodup_nil, fun x h => by cases h⟩ (by simp) ⟨[], [], by simp [permsL], rfl⟩ (by omega) hE hJ0).mono ?_⟩
  clear hE hJ0 hTW hT0 hB6 hT5 hT6 hbe
  rintro e W' (⟨rfl, _, hJ', hs'⟩ | ⟨rfl, ⟨i', hi', hx'⟩, hs'⟩)
  ·have HJ' := Lib.hid hJ'
   clear hJ'
   gi_wp2
   go_end0
   exact ⟨⟨_, rfl⟩, w2.heap.size + 2, by omega, hs', Or.inl (by have := HJ'.out; rwa [Nat.zero_add] at this)⟩
  ·have HJ' := Lib.hid hx'
   clear hx'
   gi_wp2
   go_end0
   exact ⟨⟨_, rfl⟩, w2.heap.size + 2, by omega, hs', Or.inr ⟨i', hi', HJ'.out⟩⟩
end Go.Proofs.YteiaeaciaglmgaaGreat
namespace Go.Proofs.YteiaeaciaglmgaaGreat
open Go.RowKit
attribute [local go_sem] Oper.semAt_some
theorem permutations_any (n : Int) (w : World) :
  Calls Tryz.prog 65 #[.int .i64 n] w fun e w' => e = .returned (.func (.func 86) #[] #[.pointer (some ⟨w.heap.size, 0, none⟩)]) ∧ w' = w.alloc (.cells #[.int .i64 n] 3) := by
 have hmf := @run_makeFunc_any Tryz.prog
 go_enter Tryz.func65, Tryz.ntmps65
 go_wp2
 go_ret
 exact ⟨rfl, rfl⟩
set_option maxHeartbeats 4000000 in
set_option maxRecDepth 100000 in
theorem one_iter (B bx : Nat) (w : World) (vi vk vp : Value) (π : List Int) (hp : IsInts B w vp π) (hB : B ≤ w.heap.size) (hx : Box w bx #[vi, vk, vp]) :
  IterB Tryz.prog 66 #[.pointer (some ⟨bx, 0, none⟩)] 1 (EncP B [π]) (fun k => k < B ∨ k = bx) w := by
 intro l ob W J Jx hwW hob hJ hJx hst hY
 have hxW := hx.turned hwW (fun h => h (Or.inr rfl))
 have hBw : Below B w W := hwW.below hB (fun k hk hn => hn (Or.inl hk))
 have hpW := hp.below hBw (Nat.le_refl _)
 have hBW : B ≤ W.heap.size := Nat.le_trans hB hwW.size
 have HYY := Lib.hid (hY W.heap.size 0 W #[vp] (Nat.le_refl _) (Nat.le_refl _) (by omega) (hst _ _ (Nat.le_refl _) (Nat.le_refl _) (Below.refl _ _)) ⟨vp, rfl, hpW.kind hBW (fun k hk => Or.inl hk)⟩)
 obtain ⟨b, off, cap, ⟨a, rfl, _⟩, _⟩ := hpW
 obtain ⟨zx, rx⟩ := hxW
 have r0 := rx 2
 simp at r0
 obtain ⟨fn, tmps, assign, body, hy, hR⟩ := HYY.out
 have HR := Lib.hid hR
 clear hob hJ hJx hst hY rx hx hwW hR HYY hp hBw hB hBW
 refine callsIn_of_wp Tryz.func66 rfl trivial ?_ rfl
 simp only [Tryz.ntmps66, List.size_toArray, List.length_cons, List.length_nil, Nat.reduceAdd, Nat.reduceSub, Array.replicate_succ, Array.replicate_zero, List.push_toArray, List.append_toArray, List.nil_append, List.cons_append]
 gi_wp2
 refine HR.out.mono ?_
 rintro e W' (⟨rfl, hJ', ht⟩ | ⟨rfl, hJx', ht⟩)
 ·have HJ' := Lib.hid hJ'
  have HT' := Lib.hid ht
  clear hJ' ht
  gi_wp2
  go_end0
  exact ⟨⟨_, rfl⟩, W.heap.size, Nat.le_refl _, HT'.out.size, Or.inl HJ'.out⟩
 ·have HJ' := Lib.hid hJx'
  have HT' := Lib.hid ht
  clear hJx' ht
  gi_wp2
  go_end0
  exact ⟨⟨_, rfl⟩, W.heap.size, Nat.le_refl _, HT'.out.size, Or.inr ⟨0, by omega, HJ'.out⟩⟩
/-- what count.ways returns -/
def WaysPost (B : Nat) (w : World) (d : Lot) (e : Ending) (w' : World) : Prop :=
 ∃ gf lb bx, e = .returned (.func (.func gf) #[] lb) ∧ Enters Tryz.prog gf ∧ w.heap.size ≤ bx ∧ bx < w'.heap.size ∧ IterB Tryz.prog gf lb (permsOf d).length (EncP B (permsOf d)) (fun k => k < B ∨ k = bx) w' ∧ Below w.heap.size w w'
set_option maxHeartbeats 4000000 in
set_option maxRecDepth 100000 in
theorem ways_any (B : Nat) (w : World) (vi vk vp : Value) (d : Lot) (hd : IsLot B w vi vk vp d) (hB : B ≤ w.heap.size) (hn : d.ins.length ≤ 100000) :
  Calls Tryz.prog 42 #[.agg #[vi, vk, vp]] w (WaysPost B w d) := by
 obtain ⟨hi, rfl, hp⟩ := hd
 have HP := Lib.hid hp
 have HB := Lib.hid hB
 have HN := Lib.hid hn
 obtain ⟨b1, off1, cap1, ⟨a1, rfl, _⟩, _⟩ := hi
 obtain ⟨b2, off2, cap2, ⟨a2, rfl, _⟩, _⟩ := hp
 have hmf := @run_makeFunc_any Tryz.prog
 have hn9 : (d.ins.length : Int) ≤ 100000 := by omega
 have HPO : Hid (permsOf d = if d.known then [d.perm] else permsL d.ins.length) := Lib.hid rfl
 have HPC := Lib.hid (fun w => permutations_any (d.ins.length : Int) w)
 cases hk : d.known
 ·rw [hk] at HPO
  clear hB hn
  go_enter Tryz.func42, Tryz.ntmps42
  go_wp2_with (go_at_call 65; refine (HPC.out _).mono ?_; rintro e w5 ⟨rfl, hw5⟩)
  go_ret
  have hsz : (w.alloc (.cells #[.slice a1 d.ins.length cap1, .bool false, .slice a2 d.perm.length cap2] 64)).heap.size = w.heap.size + 1 := by simp
  have hb5 : Box w5 (w.heap.size + 1) #[.int .i64 (d.ins.length : Int)] := by rw [hw5, ← hsz]; exact Box.new _ _ _
  have hbl : Below w.heap.size w w5 := by rw [hw5]; exact (box_below' w _).alloc (by simp) _
  have hsz5 : w5.heap.size = w.heap.size + 2 := by rw [hw5]; simp
  rw [← hw5]
  refine ⟨86, #[.pointer (some ⟨w.heap.size + 1, 0, none⟩)], w.heap.size + 1, by simp, enters_of Tryz.func86 (by kernel_rfl) rfl, by omega, by omega, ?_, hbl⟩
  have e : permsOf d = permsL d.ins.length := by rw [HPO.out]; rfl
  rw [e]
  exact perms_iter B _ _ w5 HN.out hb5
 ·rw [hk] at HPO
  clear hB hn
  go_enter Tryz.func42, Tryz.ntmps42
  go_wp2
  go_ret
  have e : permsOf d = [d.perm] := by rw [HPO.out]; rfl
  refine ⟨_, _, w.heap.size, rfl, enters_of Tryz.func66 (by kernel_rfl) rfl, Nat.le_refl _, by simp, ?_, box_below' _ _⟩
  rw [e]
  exact one_iter B _ _ _ _ _ d.perm (HP.out.below ((Below.refl B w).alloc HB.out _) (Nat.le_refl _)) (by simp; have := HB.out; omega) (Box.new w _ _)
end Go.Proofs.YteiaeaciaglmgaaGreat
namespace Go.Proofs
open Go.Shelf
def Tryz.lays189_ren : Go.Shelf.Ren := ⟨fun | 189 => 41 | 125 => 64 | 257 => 63 | 128 => 84 | 129 => 85 | 294 => 75 | 295 => 76 | 296 => 77 | 297 => 78 | 298 => 79 | 299 => 80 | 216 => 81 | 300 => 82 | 301 => 83 | 328 => 92 | 329 => 93 | 330 => 94 | 331 => 95 | 332 => 96 | 215 => 97 | 343 => 106 | n => n, fun | 28 => 25 | 3 => 3 | 46 => 102 | 0 => 0 | 51 => 119 | 53 => 87 | 4 => 4 | 183 => 113 | 182 => 112 | 131 => 91 | 5 => 5 | 9 => 9 | 218 => 124 | 222 => 128 | 228 => 135 | 229 => 136 | n => n, fun | n => n⟩
theorem Tryz.lays189 : Go.Proofs.Lays.n189 Tryz.prog Tryz.lays189_ren := {
 mixed := by kernel_rfl
 f125 := Tryz.func64.trans (congrArg some (by kernel_rfl))
 f128 := Tryz.func84.trans (congrArg some (by kernel_rfl))
 f129 := Tryz.func85.trans (congrArg some (by kernel_rfl))
 f189 := Tryz.func41.trans (congrArg some (by kernel_rfl))
 f215 := Tryz.func97.trans (congrArg some (by kernel_rfl))
 f216 := Tryz.func81.trans (congrArg some (by kernel_rfl))
 f257 := Tryz.func63.trans (congrArg some (by kernel_rfl))
 f294 := Tryz.func75.trans (congrArg some (by kernel_rfl))
 f295 := Tryz.func76.trans (congrArg some (by kernel_rfl))
 f296 := Tryz.func77.trans (congrArg some (by kernel_rfl))
 f297 := Tryz.func78.trans (congrArg some (by kernel_rfl))
 f298 := Tryz.func79.trans (congrArg some (by kernel_rfl))
 f299 := Tryz.func80.trans (congrArg some (by kernel_rfl))
 f300 := Tryz.func82.trans (congrArg some (by kernel_rfl))
 f301 := Tryz.func83.trans (congrArg some (by kernel_rfl))
 f328 := Tryz.func92.trans (congrArg some (by kernel_rfl))
 f329 := Tryz.func93.trans (congrArg some (by kernel_rfl))
 f330 := Tryz.func94.trans (congrArg some (by kernel_rfl))
 f331 := Tryz.func95.trans (congrArg some (by kernel_rfl))
 f332 := Tryz.func96.trans (congrArg some (by kernel_rfl))
 f343 := Tryz.func106.trans (congrArg some (by kernel_rfl))
 t0 := Tryz.underlying0
 a0 := Tryz.isAgg0
 z0 := Tryz.sizeOf0
 v0 := Tryz.zeroValue0
 t3 := Tryz.underlying3
 a3 := Tryz.isAgg3
 z3 := Tryz.sizeOf3
 v3 := Tryz.zeroValue3
 t4 := Tryz.underlying4
 a4 := Tryz.isAgg4
 z4 := Tryz.sizeOf4
 v4 := Tryz.zeroValue4
 t5 := Tryz.underlying5
 a5 := Tryz.isAgg5
 z5 := Tryz.sizeOf5
 v5 := Tryz.zeroValue5
 t9 := Tryz.underlying9
 a9 := Tryz.isAgg9
 z9 := Tryz.sizeOf9
 v9 := Tryz.zeroValue9
 t28 := Tryz.underlying25
 a28 := Tryz.isAgg25
 z28 := Tryz.sizeOf25
 v28 := Tryz.zeroValue25
 t46 := Tryz.underlying102
 a46 := Tryz.isAgg102
 z46 := Tryz.sizeOf102
 v46 := Tryz.zeroValue102
 t51 := Tryz.underlying119
 a51 := Tryz.isAgg119
 z51 := Tryz.sizeOf119
 v51 := Tryz.zeroValue119
 t53 := Tryz.underlying87
 a53 := Tryz.isAgg87
 z53 := Tryz.sizeOf87
 v53 := Tryz.zeroValue87
 t131 := Tryz.underlying91
 a131 := Tryz.isAgg91
 z131 := Tryz.sizeOf91
 v131 := Tryz.zeroValue91
 t182 := Tryz.underlying112
 a182 := Tryz.isAgg112
 z182 := Tryz.sizeOf112
 v182 := Tryz.zeroValue112
 t183 := Tryz.underlying113
 a183 := Tryz.isAgg113
 z183 := Tryz.sizeOf113
 v183 := Tryz.zeroValue113
 t218 := Tryz.underlying124
 a218 := Tryz.isAgg124
 z218 := Tryz.sizeOf124
 v218 := Tryz.zeroValue124
 t222 := Tryz.underlying128
 a222 := Tryz.isAgg128
 z222 := Tryz.sizeOf128
 v222 := Tryz.zeroValue128
 t228 := Tryz.underlying135
 a228 := Tryz.isAgg135
 z228 := Tryz.sizeOf135
 v228 := Tryz.zeroValue135
 t229 := Tryz.underlying136
 a229 := Tryz.isAgg136
 z229 := Tryz.sizeOf136
 v229 := Tryz.zeroValue136 }
open Go.Sort Go.RowKit in
theorem Tryz.slices_Sort_int (blk off cap : Nat) (zs : List Int) (w : World) (hH : Holds (Value.int .i64) w blk off zs.toArray) (hblk : blk < w.heap.size) (hsz : zs.length < 4611686018427387904) :
  Calls Tryz.prog 41 #[.slice (some ⟨blk, off, none⟩) zs.length cap] w fun e w' =>
   e = .returned (.tuple #[]) ∧ ∃ n os, w' = grow (putRow (Value.int .i64) (Sort.ahead w n) blk off (zs.mergeSort fun x y => decide (x ≤ y)).toArray) os := Any.slices_Sort_int Tryz.lays189 blk off cap zs w hH hblk hsz
open Go.RowKit Go.Sort in
/-- .. and plain. (LAID: no walk: one application.) -/
theorem Tryz.slices_Sort_int_none (p : Option Addr) (cap : Nat) (w : World) :
  Calls Tryz.prog 41 #[.slice p 0 cap] w fun e w' => e = .returned (.tuple #[]) ∧ w' = w := Any.slices_Sort_int_none Tryz.lays189 p cap w
def Tryz.laysSlF6_f67_ren : Go.Shelf.Ren := ⟨fun | 6 => 67 | 15 => 64 | 14 => 88 | 28 => 84 | 29 => 85 | 20 => 98 | 21 => 99 | 22 => 100 | 23 => 101 | 24 => 102 | 25 => 103 | 26 => 104 | 27 => 105 | 46 => 107 | 47 => 93 | 48 => 94 | 49 => 108 | 50 => 109 | 57 => 110 | n => n, fun | 22 => 35 | 24 => 25 | 25 => 104 | 3 => 3 | 39 => 102 | 0 => 0 | 53 => 119 | 55 => 87 | 4 => 4 | 46 => 113 | 45 => 112 | 50 => 91 | 5 => 5 | 9 => 9 | 66 => 124 | 70 => 128 | 76 => 135 | 77 => 136 | n => n, fun | n => n⟩
theorem Tryz.laysSlF6_f67 : Go.Proofs.SlLaysF.n6 Tryz.prog Tryz.laysSlF6_f67_ren := {
 mixed := by kernel_rfl
 f6 := ⟨Tryz.f67.name, by decide, Tryz.func67.trans (congrArg some (by kernel_rfl))⟩
 f14 := ⟨Tryz.f88.name, by decide, Tryz.func88.trans (congrArg some (by kernel_rfl))⟩
 f15 := Tryz.func64.trans (congrArg some (by kernel_rfl))
 f20 := ⟨Tryz.f98.name, by decide, Tryz.func98.trans (congrArg some (by kernel_rfl))⟩
 f21 := ⟨Tryz.f99.name, by decide, Tryz.func99.trans (congrArg some (by kernel_rfl))⟩
 f22 := ⟨Tryz.f100.name, by decide, Tryz.func100.trans (congrArg some (by kernel_rfl))⟩
 f23 := ⟨Tryz.f101.name, by decide, Tryz.func101.trans (congrArg some (by kernel_rfl))⟩
 f24 := ⟨Tryz.f102.name, by decide, Tryz.func102.trans (congrArg some (by kernel_rfl))⟩
 f25 := ⟨Tryz.f103.name, by decide, Tryz.func103.trans (congrArg some (by kernel_rfl))⟩
 f26 := ⟨Tryz.f104.name, by decide, Tryz.func104.trans (congrArg some (by kernel_rfl))⟩
 f27 := ⟨Tryz.f105.name, by decide, Tryz.func105.trans (congrArg some (by kernel_rfl))⟩
 f28 := Tryz.func84.trans (congrArg some (by kernel_rfl))
 f29 := Tryz.func85.trans (congrArg some (by kernel_rfl))
 f46 := ⟨Tryz.f107.name, by decide, Tryz.func107.trans (congrArg some (by kernel_rfl))⟩
 f47 := Tryz.func93.trans (congrArg some (by kernel_rfl))
 f48 := Tryz.func94.trans (congrArg some (by kernel_rfl))
 f49 := ⟨Tryz.f108.name, by decide, Tryz.func108.trans (congrArg some (by kernel_rfl))⟩
 f50 := ⟨Tryz.f109.name, by decide, Tryz.func109.trans (congrArg some (by kernel_rfl))⟩
 f57 := ⟨Tryz.f110.name, by decide, Tryz.func110.trans (congrArg some (by kernel_rfl))⟩
 t0 := Tryz.underlying0
 a0 := Tryz.isAgg0
 z0 := Tryz.sizeOf0
 v0 := Tryz.zeroValue0
 t3 := Tryz.underlying3
 a3 := Tryz.isAgg3
 z3 := Tryz.sizeOf3
 v3 := Tryz.zeroValue3
 t4 := Tryz.underlying4
 a4 := Tryz.isAgg4
 z4 := Tryz.sizeOf4
 v4 := Tryz.zeroValue4
 t5 := Tryz.underlying5
 a5 := Tryz.isAgg5
 z5 := Tryz.sizeOf5
 v5 := Tryz.zeroValue5
 t9 := Tryz.underlying9
 a9 := Tryz.isAgg9
 z9 := Tryz.sizeOf9
 v9 := Tryz.zeroValue9
 t22 := Tryz.underlying35
 a22 := Tryz.isAgg35
 z22 := Tryz.sizeOf35
 v22 := Tryz.zeroValue35
 a24 := Tryz.isAgg25
 z24 := Tryz.sizeOf25
 t25 := Tryz.underlying104
 a25 := Tryz.isAgg104
 z25 := Tryz.sizeOf104
 v25 := Tryz.zeroValue104
 t39 := Tryz.underlying102
 a39 := Tryz.isAgg102
 z39 := Tryz.sizeOf102
 v39 := Tryz.zeroValue102
 t45 := Tryz.underlying112
 a45 := Tryz.isAgg112
 z45 := Tryz.sizeOf112
 v45 := Tryz.zeroValue112
 t46 := Tryz.underlying113
 a46 := Tryz.isAgg113
 z46 := Tryz.sizeOf113
 v46 := Tryz.zeroValue113
 t50 := Tryz.underlying91
 a50 := Tryz.isAgg91
 z50 := Tryz.sizeOf91
 v50 := Tryz.zeroValue91
 t53 := Tryz.underlying119
 a53 := Tryz.isAgg119
 z53 := Tryz.sizeOf119
 v53 := Tryz.zeroValue119
 t55 := Tryz.underlying87
 a55 := Tryz.isAgg87
 z55 := Tryz.sizeOf87
 v55 := Tryz.zeroValue87
 t66 := Tryz.underlying124
 a66 := Tryz.isAgg124
 z66 := Tryz.sizeOf124
 v66 := Tryz.zeroValue124
 t70 := Tryz.underlying128
 a70 := Tryz.isAgg128
 z70 := Tryz.sizeOf128
 v70 := Tryz.zeroValue128
 t76 := Tryz.underlying135
 a76 := Tryz.isAgg135
 z76 := Tryz.sizeOf135
 v76 := Tryz.zeroValue135
 t77 := Tryz.underlying136
 a77 := Tryz.isAgg136
 z77 := Tryz.sizeOf136
 v77 := Tryz.zeroValue136 }
open Go.RowKit Go.Lib Go.Sort in
/-- **slices.SortFunc, IN THE DOCUMENTATION's OWN TERMS: A PERMUTATION OF WHAT THE ROW HELD, SORTED BY 'cmp(a, b) < 0'.** Which of two equals comes first is left open ("The sort is not guaranteed to be stable"). (LAID AT THE INSTANCE 'slices.SortFunc[[][]int,[]int]': no walk: one application.) -/
theorem Tryz.slices_SortFunc {α : Type} [Inhabited α] (enc : α → Value) (h1 : OneCell enc) (cf : α → α → Int) (hO : SWO (ltOf cf)) (g : Nat) (cb : Array Value) (blk off cap : Nat) (d : Array α) (w : World) (eg : ∀ args w, (callFunc g args).run Tryz.prog w = .ok (.enter g args) w) (hcmp : CmpLays1 Tryz.prog g cb enc cf blk off d.size w) (hH : Holds enc w blk off d) (hblk : blk < w.heap.size) (hsz : d.size < 4611686018427387904) :
  Calls Tryz.prog 67 #[.slice (some ⟨blk, off, none⟩) d.size cap, .func (.func g) #[] cb] w fun e w' =>
   e = .returned (.tuple #[]) ∧ ∃ d' n os, PermIn 0 d.size d d' ∧ SortedIn (ltOf cf) 0 d.size d' ∧ w' = sortWorld enc w blk off n d' os := Any.slices_SortFunc Tryz.laysSlF6_f67 enc h1 cf hO g cb blk off cap d w eg hcmp hH hblk hsz
end Go.Proofs
namespace Go.Proofs.YteiaeaciaglmgaaGreat
open Go.RowKit Go.ChangeShapes Go.WideShapes Go.WideMaps
/-- eight numbers -/
def K8 : Type := { l : List Int // l.length = 8 ∧ ∀ x ∈ l, I64 x }
instance : DecidableEq K8 := fun a b => decidable_of_iff (a.1 = b.1) ⟨Subtype.ext, fun h => by rw [h]⟩
def enc8 (k : K8) : Value := .agg (k.1.map (Value.int .i64)).toArray
theorem laidOut8 : laidOutB Tryz.prog = true := by kernel_rfl
theorem row8 : (78 : TypeId) < Tryz.prog.types.size := of_decide_eq_true (by kernel_rfl)
theorem wide8 : (match Tryz.prog.underlying 78 with | some (.array _ _) | some (.struct _) => true | _ => false) = true := by rw [Tryz.underlying78]
theorem arr8 : ArrKey Tryz.prog 78 3 8 := ⟨Tryz.underlying78, by kernel_rfl, by kernel_rfl, by kernel_rfl⟩
theorem keyAt8 : Tryz.prog.keyTypeAt 2 78 = true := by kernel_rfl
theorem small8 : 2 + 1 ≤ 10000 := by decide
set_option maxRecDepth 100000 in
theorem law8 : KeyLaw Tryz.prog 78 := deep_law_laid laidOut8 (m := 2) small8 row8 keyAt8 wide8
set_option maxRecDepth 100000 in
theorem types8 : ∃ m, Tryz.prog.types.size = m + 1 := by
 exact ⟨Tryz.prog.types.size - 1, (Nat.succ_pred_eq_of_pos (Nat.lt_of_le_of_lt (Nat.zero_le _) row8)).symm⟩
theorem key8 (k : K8) : ∃ l, keyOf Tryz.prog 78 (enc8 k) = some l := by
 obtain ⟨l, hl, hx⟩ := k
 obtain ⟨m, hm⟩ := types8
 have A := arr8
 have hkt := A.keyType ⟨m, hm⟩
 have he := Tryz.underlying3
 match l, hl, hx with
 | [a, b, c, d, e, f, g, h], _, hx =>
  have wf : ∀ x ∈ [a, b, c, d, e, f, g, h], (Lit.int .i64 x).wf = true := fun x hx' => by
   have := hx x hx'
   unfold I64 at this
   simp [Lit.wf, IntKind.min, IntKind.max, IntKind.bits, IntKind.signed]
   omega
  have w1 := wf a (by simp)
  have w2 := wf b (by simp)
  have w3 := wf c (by simp)
  have w4 := wf d (by simp)
  have w5 := wf e (by simp)
  have w6 := wf f (by simp)
  have w7 := wf g (by simp)
  have w8 := wf h (by simp)
  refine ⟨.string (keyBytes [.int .i64 a, .int .i64 b, .int .i64 c, .int .i64 d, .int .i64 e, .int .i64 f, .int .i64 g, .int .i64 h]), ?_⟩
  show keyOf Tryz.prog 78 (.agg #[.int .i64 a, .int .i64 b, .int .i64 c, .int .i64 d, .int .i64 e, .int .i64 f, .int .i64 g, .int .i64 h]) = _
  unfold keyOf
  simp only [A.hu]
  rw [if_pos (by simp [hkt, Value.formed, A.hu, A.size]), hm]
  unfold Program.keyLits
  simp only [A.hu, Value.cells]
  rw [if_pos (by rw [A.size]; rfl), show List.range 8 = [0, 1, 2, 3, 4, 5, 6, 7] from rfl, List.mapM_cons, List.mapM_cons, List.mapM_cons, List.mapM_cons, List.mapM_cons, List.mapM_cons, List.mapM_cons, List.mapM_cons, List.mapM_nil]
  simp [A.one, Program.keyLits, he, w1, w2, w3, w4, w5, w6, w7, w8]
theorem enc8_inj {x y : K8} (h : enc8 x = enc8 y) : x = y := by
 unfold enc8 at h
 simp only [Value.agg.injEq] at h
 have h' := congrArg Array.toList h
 simp only at h'
 refine Subtype.ext (List.map_inj_right (f := Value.int .i64) (fun a b e => by cases e; rfl) |>.1 h')
theorem encK8 : KeyEnc Tryz.prog 78 enc8 := ⟨Go.Maps.Keyed.of_law law8, enc8_inj, key8⟩
def arrN (l : List Int) : Array Value := (l.map (Value.int .i64)).toArray
theorem arrN_size (l : List Int) : (arrN l).size = l.length := by unfold arrN; simp
theorem enc8_arr8 (k : K8) : enc8 k = .agg (arrN k.1) := rfl
theorem info8 : (Tryz.prog.info? 78).map (·.size) = some 8 := by kernel_rfl
theorem arrN_one (l : List Int) : (arrN l).all (·.oneCell') = true := by
 unfold arrN
 rw [← Array.all_toList]
 simp [Value.oneCell']
/-- block b is an array of eight numbers that may be written -/
def Row8 (w : World) (b : Nat) (l : List Int) : Prop := w.heap[b]? = some (.cells (arrN l) 78 (0, 0)) ∧ l.length = 8
theorem Row8.lt {w : World} {b : Nat} {l : List Int} (h : Row8 w b l) : b < w.heap.size := (Array.getElem?_eq_some_iff.1 h.1).1
theorem Row8.new (w : World) {l : List Int} (hl : l.length = 8) : Row8 (w.alloc (.cells (arrN l) 78)) w.heap.size l := ⟨heap_alloc_new w _, hl⟩
theorem Row8.below {B b : Nat} {w w' : World} {l : List Int} (h : Row8 w b l) (hb : Below B w w') (hB : b < B) : Row8 w' b l := ⟨(hb.block b hB).trans h.1, h.2⟩
theorem Row8.ext {b : Nat} {w w' : World} {l : List Int} (h : Row8 w b l) (hb : Below w.heap.size w w') : Row8 w' b l := h.below hb h.lt
theorem Row8.grown {b : Nat} {w w' : World} {l : List Int} {row : Option Nat} (h : Row8 w b l) (hg : w.grownBy w' row) (hne : some b ≠ row) : Row8 w' b l := ⟨(hg.block b h.lt hne).trans h.1, h.2⟩
theorem Row8.cell {w : World} {b j : Nat} {l : List Int} (h : Row8 w b l) (hj : j < 8) : w.cell? ⟨b, j, none⟩ = some (.int .i64 (l.getD j 0)) := by
 obtain ⟨h1, h2⟩ := h
 simp only [World.cell?, h1]
 unfold arrN
 have : j < l.length := by omega
 simp [this]
theorem Row8.free {w : World} {b j : Nat} {l : List Int} (h : Row8 w b l) : w.frozen? ⟨b, j, none⟩ = false := by
 obtain ⟨h1, h2⟩ := h
 simp [World.frozen?, h1]
theorem Row8.set {w : World} {b : Nat} {l : List Int} (h : Row8 w b l) (j : Nat) (v : Int) : Row8 (w.setCell ⟨b, j, none⟩ (.int .i64 v)) b (l.set j v) := by
 obtain ⟨h1, h2⟩ := h
 refine ⟨?_, by simpa using h2⟩
 rw [heap_setCell_same w b j (arrN l) _ _ h1]
 congr 2
 unfold arrN
 rw [List.setIfInBounds_toArray, List.map_set]
section
variable {ops : Array Oper} {rest : List Oper} {o : Oper} {a : Act} {w : World} {Q : Exit → Act → World → Prop}
theorem wpList_load8 (x : Operand) {b : Nat} {l : List Int} (h : Row8 w b l) (hk : wpList Tryz.prog ops Q rest (a.put o.dst (.agg (arrN l))) w) (hgd : o.guard = none) (ho : o.op = .load 78 x) (hx : a.eval x = .pointer (some ⟨b, 0, none⟩)) :
  wpList Tryz.prog ops Q (o :: rest) a w :=
 wpList_load_row hgd 78 x ho b hx 78 (arrN l) (0, 0) _ h.1 Tryz.underlying78 rfl (by rw [arrN_size, h.2]; kernel_rfl) hk
theorem wpList_store8 (p v : Operand) {l : List Int} (hl : l.length = 8) (hk : wpList Tryz.prog ops Q rest (a.put o.dst undef) (w.alloc (.cells (arrN l) 78))) (hgd : o.guard = none) (ho : o.op = .store 78 p v) (hp : a.eval p = .pointer (some ⟨w.heap.size, 0, none⟩)) (hv : a.eval v = .agg (arrN l)) :
  wpList Tryz.prog ops Q (o :: rest) a (w.alloc (.cells #[.int .i64 0, .int .i64 0, .int .i64 0, .int .i64 0, .int .i64 0, .int .i64 0, .int .i64 0, .int .i64 0] 78)) := by
 refine wpList_plain hgd fun K hK => ?_
 have hr := run_storeAt_new (P := Tryz.prog) w 78 #[.int .i64 0, .int .i64 0, .int .i64 0, .int .i64 0, .int .i64 0, .int .i64 0, .int .i64 0, .int .i64 0] (arrN l) (by rw [info8, arrN_size, hl]) (by rw [arrN_size, hl]; rfl) (arrN_one l)
 unfold Oper.wp
 simp only [execOp, ho, hp, hv]
 simp [hr, Result.andThen]
 exact hK _ _ hk
end
end Go.Proofs.YteiaeaciaglmgaaGreat
namespace Go.Proofs.YteiaeaciaglmgaaGreat
open Go.RowKit
/-- how two lists are ordered -/
def cmpL : List Int → List Int → Int
 | [], [] => 0
 | [], _ :: _ => -1
 | _ :: _, [] => 1
 | a :: r, b :: s => if cmpI a b ≠ 0 then cmpI a b else cmpL r s
theorem cmpI_zero {a b : Int} : cmpI a b = 0 ↔ a = b := by
 unfold cmpI
 split
 ·omega
 ·split <;> omega
theorem cmpL_lt : ∀ {a b : List Int}, a.length = b.length → (cmpL a b < 0 ↔ ltL a b = true)
 | [], [], _ => by simp [cmpL, ltL]
 | [], b :: s, h => by simp at h
 | a :: r, [], h => by simp at h
 | a :: r, b :: s, h => by
  simp only [cmpL, ltL]
  by_cases hab : a = b
  ·rw [if_pos hab, if_neg (fun h => h (cmpI_zero.2 hab))]
   exact cmpL_lt (by simpa using h)
  ·rw [if_neg hab, if_pos (by rw [ne_eq, cmpI_zero]; exact hab)]
   unfold cmpI
   by_cases hlt : a < b
   ·rw [if_pos hlt]; simp [hlt]
   ·rw [if_neg hlt, if_pos (by omega)]; simp [hlt]
theorem cmpL_self : ∀ a : List Int, cmpL a a = 0
 | [] => rfl
 | a :: r => by simp only [cmpL]; rw [if_neg (fun h => h (cmpI_zero.2 rfl)), cmpL_self r]
theorem cmpL_trans : ∀ {a b c : List Int}, cmpL a b < 0 → cmpL b c < 0 → cmpL a c < 0
 | [], [], c, h, _ => by simp [cmpL] at h
 | [], b :: s, [], _, h => by simp [cmpL] at h
 | [], b :: s, c :: t, _, _ => by simp [cmpL]
 | a :: r, [], c, h, _ => by simp [cmpL] at h
 | a :: r, b :: s, [], _, h => by simp [cmpL] at h
 | a :: r, b :: s, c :: t, h1, h2 => by
  have ih := @cmpL_trans r s t
  simp only [cmpL, cmpI, ne_eq] at *
  repeat' split at h1
  all_goals repeat' split at h2
  all_goals repeat' split
  all_goals first | omega | (apply ih <;> assumption)
theorem cmpL_ntrans : ∀ {a b c : List Int}, ¬ cmpL a b < 0 → ¬ cmpL b c < 0 → ¬ cmpL a c < 0
 | [], b, [], _, _ => by simp [cmpL]
 | [], [], c :: t, _, h => by simp [cmpL] at h
 | [], b :: s, c :: t, h, _ => by simp [cmpL] at h
 | a :: r, b, [], _, _ => by simp [cmpL]
 | a :: r, [], c :: t, _, h => by simp [cmpL] at h
 | a :: r, b :: s, c :: t, h1, h2 => by
  have ih := @cmpL_ntrans r s t
  simp only [cmpL, cmpI, ne_eq] at *
  repeat' split at h1
  all_goals repeat' split at h2
  all_goals repeat' split
  all_goals first | omega | (apply ih <;> assumption)
theorem cmpL_step {a b : List Int} {k : Nat} (h1 : k < a.length) (h2 : k < b.length) : cmpL (a.drop k) (b.drop k) = if cmpI (nth a k) (nth b k) ≠ 0 then cmpI (nth a k) (nth b k) else cmpL (a.drop (k + 1)) (b.drop (k + 1)) := by
 rw [List.drop_eq_getElem_cons h1, List.drop_eq_getElem_cons h2]
 simp only [cmpL]
 rw [nth_lt h1, nth_lt h2]
set_option maxHeartbeats 2000000 in
/-- slices.Compare -/
theorem compareL_any (B B' : Nat) (w : World) (v v' : Value) (xs ys : List Int) (hx : IsInts B w v xs) (hy : IsInts B' w v' ys) :
  Calls Tryz.prog 68 #[v, v'] w fun e w' => e = .returned (.int .i64 (cmpL xs ys)) ∧ w' = w := by
 obtain ⟨b, off, cap, ⟨a, rfl, hcap, hmax, ha⟩, hlen, hz, hc⟩ := hx
 obtain ⟨b', off', cap', ⟨a', rfl, hcap', hmax', ha'⟩, hlen', hz', hc'⟩ := hy
 have HC := Lib.hid hc
 have HC' := Lib.hid hc'
 have HA := Lib.hid ha
 have HA' := Lib.hid ha'
 clear hc hc' ha ha' hz hz'
 go_enter Tryz.func68, Tryz.ntmps68
 go_wp2
 go_loopw [11] (fun i wr => ∃ k : Nat, k ≤ xs.length ∧ k ≤ ys.length ∧ i = .int .i64 k ∧ wr = w ∧ cmpL xs ys = cmpL (xs.drop k) (ys.drop k)) (fun i _ => xs.length - (intOf i).toNat)
 case atStart => exact ⟨0, by omega, by omega, rfl, rfl, by simp⟩
 case round =>
  obtain ⟨k, hk, hk', rfl, rfl, he⟩ := hrel
  have HE := Lib.hid he
  clear he
  by_cases h1 : k < xs.length
  ·obtain rfl : a = some ⟨b, off, none⟩ := by rcases HA.out with h | h; exact h; omega
   have c1 := (HC.out k h1).2
   by_cases h2 : k < ys.length
   ·obtain rfl : a' = some ⟨b', off', none⟩ := by rcases HA'.out with h | h; exact h; omega
    have c2 := (HC'.out k h2).2
    have HS := Lib.hid (cmpL_step h1 h2)
    cases hq : decide (cmpI (nth xs k) (nth ys k) = 0)
    ·have hq' := of_decide_eq_false hq
     have HQ := Lib.hid hq'
     have hq2 : (cmpI (nth xs k) (nth ys k) != 0) = true := by simpa using hq'
     clear hq hq'
     go_wp2_with (go_at_call 89; refine (compare_any _ _ _).mono ?_; rintro e w5 ⟨rfl, hw5⟩; obtain rfl := hw5.symm)
     go_ret
     exact ⟨by rw [HE.out, HS.out, if_pos HQ.out]; rfl, rfl⟩
    ·have hq' := of_decide_eq_true hq
     have HQ := Lib.hid hq'
     have hq2 : (cmpI (nth xs k) (nth ys k) != 0) = false := by simpa using hq'
     clear hq hq'
     go_wp2_with (go_at_call 89; refine (compare_any _ _ _).mono ?_; rintro e w5 ⟨rfl, hw5⟩; obtain rfl := hw5.symm)
     go_roundw
     case rel => exact ⟨k + 1, by omega, by omega, by go_num, by first | rfl | trivial, by rw [HE.out, HS.out, if_neg (by simpa using HQ.out)]⟩
     case measure => simp [intOf]; omega
   ·have HR : Hid (cmpL xs ys = 1) := Lib.hid (by
     rw [HE.out, List.drop_eq_getElem_cons h1, List.drop_of_length_le (l := ys) (show ys.length ≤ k by omega)]
     rfl)
    go_wp2
    go_ret
    exact ⟨by rw [HR.out]; rfl, rfl⟩
  ·obtain rfl : k = xs.length := by omega
   by_cases h2 : xs.length < ys.length
   ·have HR : Hid (cmpL xs ys = -1) := Lib.hid (by
     rw [HE.out, List.drop_of_length_le (l := xs) (Nat.le_refl _), List.drop_eq_getElem_cons h2]
     rfl)
    go_wp2
    go_ret
    exact ⟨by rw [HR.out]; rfl, rfl⟩
   ·have HR : Hid (cmpL xs ys = 0) := Lib.hid (by
     rw [HE.out, List.drop_of_length_le (l := xs) (Nat.le_refl _), List.drop_of_length_le (l := ys) (by omega)]
     rfl)
    go_wp2
    go_ret
    exact ⟨by rw [HR.out]; rfl, rfl⟩
end Go.Proofs.YteiaeaciaglmgaaGreat
namespace Go.Proofs.YteiaeaciaglmgaaGreat
open Go.RowKit
theorem world_sort {α : Type} [Inhabited α] (enc : α → Value) (w : World) (g n : Nat) (d : Array α) (os : Array Obj) (hgl : g < w.heap.size) :
  w.grownBy (Go.Proofs.sortWorld enc w g 0 n d os) (some g) := by
 unfold Go.Proofs.sortWorld Go.Sort.grow Go.Sort.putRow Go.Sort.mapBlock
 refine ⟨rfl, rfl, rfl, ?_, fun k hk hne => ?_⟩
 ·show w.heap.size ≤ ((w.heap.modify g _) ++ os).size
  simp
 ·show ((w.heap.modify g _) ++ os)[k]? = _
  rw [Array.getElem?_append_left (by simpa using hk), Array.getElem?_modify, if_neg (fun e => hne (by rw [e]))]
set_option maxHeartbeats 2000000 in
theorem sort_rows {C : Nat} {w : World} {v : Value} {rows : List (List Int)} (h : OwnMat C w v rows) (hne : rows ≠ []) :
  Calls Tryz.prog 67 #[v, .func (.func 68) #[] #[]] w fun e w' => e = .returned (.tuple #[]) ∧
   ∃ rows', OwnMat C w' v rows' ∧ rows'.Perm rows ∧ rows'.Pairwise (fun a b => ¬ cmpL b a < 0) ∧ w.grownBy w' v.ownBlock := by
 obtain ⟨vals, ⟨hl, h1⟩, h2, h3⟩ := h
 have hpos : 0 < rows.length := List.length_pos_iff.2 hne
 rcases h1 with ⟨rfl, hn⟩ | ⟨g, cap, cur, rfl, hb, hg, hnc, hcm, hcs, htk⟩
 ·omega
 ·have hgl := (Array.getElem?_eq_some_iff.1 hg).1
  have hap : ∀ j, j < rows.length → (valAt vals j).ownBlock = none ∨ (valAt vals j).ownBlock ≠ some g := fun j hj =>
   (h3 j hj).apart (B' := C) (v := .slice (some ⟨g, 0, none⟩) rows.length cap) (n := rows.length) (vals := vals) ⟨hl, Or.inr ⟨g, cap, cur, rfl, hb, hg, hnc, hcm, hcs, htk⟩⟩
  let α : Type := { p : Value × List Int // OwnInts C w p.1 p.2 ∧ (p.1.ownBlock = none ∨ p.1.ownBlock ≠ some g) }
  let enc : α → Value := fun p => p.1.1
  let cf : α → α → Int := fun p q => cmpL p.1.2 q.1.2
  let at0 : Fin rows.length → α := fun j => ⟨(valAt vals j.1, rowAt rows j.1), h3 j.1 j.2, hap j.1 j.2⟩
  letI : Inhabited α := ⟨at0 ⟨0, hpos⟩⟩
  let d : Array α := Array.ofFn at0
  have hds : d.size = rows.length := by simp [d]
  have hdj : ∀ j (hj : j < rows.length), d[j]! = at0 ⟨j, hj⟩ := fun j hj => by
   rw [getElem!_pos d j (by rw [hds]; exact hj)]
   simp [d]
  have h1c : OneCell enc := fun p => by
   obtain ⟨⟨pv, pl⟩, hp, _⟩ := p
   obtain ⟨a, cap, e, _⟩ := hp.form
   show pv.oneCell' = true
   have e' : pv = .slice a pl.length cap := e
   rw [e']; rfl
  have hO : Go.Sort.SWO (Go.Proofs.ltOf cf) := by
   refine ⟨fun x => ?_, fun x y z a b => ?_, fun x y z a b => ?_⟩
   ·unfold Go.Proofs.ltOf
    show decide (cmpL x.1.2 x.1.2 < 0) = false
    rw [cmpL_self]; rfl
   ·unfold Go.Proofs.ltOf at *
    exact decide_eq_true (cmpL_trans (of_decide_eq_true a) (of_decide_eq_true b))
   ·unfold Go.Proofs.ltOf at *
    exact decide_eq_false (cmpL_ntrans (of_decide_eq_false a) (of_decide_eq_false b))
  have hH : Go.Sort.Holds enc w g 0 d := fun j hj => by
   have hj' : j < rows.length := by rw [hds] at hj; exact hj
   have hjv : j < vals.length := by omega
   have hjc : j < cur.size := by omega
   refine ⟨?_, by simp [World.frozen?, hg]⟩
   rw [hdj j hj']
   show w.cell? ⟨g, 0 + j, none⟩ = some (valAt vals j)
   simp only [World.cell?, hg, Nat.zero_add]
   have : (cur.toList.take (rows.length * 1))[j]? = vals[j]? := by rw [htk]
   rw [List.getElem?_take, if_pos (by omega)] at this
   unfold valAt
   rw [List.getD_eq_getElem?_getD, List.getElem?_eq_getElem hjv]
   rw [List.getElem?_eq_getElem hjv] at this
   simpa using this
  have hcmp : Go.Proofs.CmpLays1 Tryz.prog 68 #[] enc cf g 0 d.size w := fun m os dk hs x y => by
   have hgr := world_sort enc w g m dk os hgl
   have hx := (x.2.1.kept hgr x.2.2).isInts
   have hy := (y.2.1.kept hgr y.2.2).isInts
   refine (compareL_any _ _ _ _ _ _ _ hx hy).mono ?_
   rintro e w' ⟨rfl, rfl⟩
   exact ⟨rfl, 0, #[], by simp [World.drewN]⟩
  have eg : ∀ args w, (callFunc 68 args).run Tryz.prog w = .ok (.enter 68 args) w := enters_of Tryz.func68 (by kernel_rfl) rfl
  have hcon := Tryz.slices_SortFunc enc h1c cf hO 68 #[] g 0 cap d w eg hcmp hH hgl (by rw [hds]; omega)
  rw [hds] at hcon
  refine hcon.mono ?_
  rintro e w' ⟨rfl, d', n, os, hp, hs, rfl⟩
  obtain ⟨hps, _, hpp⟩ := hp
  have hds' : d'.size = rows.length := by rw [hps, hds]
  have hgr := world_sort enc w g n d' os hgl
  have hall : (d'.toList.map fun p => p.1.2).Perm rows := by
   have e1 : (d'.extract 0 rows.length).toList = d'.toList := by simp [← hds']
   have e2 : (d.extract 0 rows.length).toList = d.toList := by simp [← hds]
   rw [e1, e2] at hpp
   refine (hpp.map (fun p : α => p.1.2)).trans ?_
   have : d.toList.map (fun p : α => p.1.2) = rows := by
    apply List.ext_getElem
    ·simp [hds]
    ·intro i h1 h2
     simp only [List.getElem_map, Array.getElem_toList]
     have hi : i < rows.length := h2
     have := hdj i hi
     rw [getElem!_pos d i (by rw [hds]; exact hi)] at this
     rw [this]
     show rowAt rows i = rows[i]
     unfold rowAt
     rw [List.getD_eq_getElem?_getD, List.getElem?_eq_getElem hi]
     rfl
   rw [this]
  have hget : ∀ j, j < rows.length → ∃ hj : j < d'.size, d'[j]! = d'[j] := fun j hj => ⟨by omega, getElem!_pos d' j (by omega)⟩
  refine ⟨rfl, d'.toList.map fun p => p.1.2, ⟨d'.toList.map fun p => p.1.1, ?_, by simp [hds']; exact h2, fun j hj => ?_⟩, hall, ?_, hgr⟩
  ·have hblk : (Go.Proofs.sortWorld enc w g 0 n d' os).heap[g]? = some (.cells (Go.Sort.putCells enc 0 d' cur) 25 (0, 0)) := by
    unfold Go.Proofs.sortWorld Go.Sort.grow Go.Sort.putRow Go.Sort.mapBlock
    show ((w.heap.modify g _) ++ os)[g]? = _
    rw [Array.getElem?_append_left (by simpa using hgl), Array.getElem?_modify, if_pos rfl, hg]
    rfl
   refine ⟨by simp, Or.inr ⟨g, cap, _, by simp [hds'], hb, hblk, by simp [hds']; exact hnc, hcm, ?_, ?_⟩⟩
   ·unfold Go.Sort.putCells
    simpa using hcs
   ·apply List.ext_getElem?
    intro i
    rw [List.getElem?_take, List.getElem?_map]
    simp only [List.length_map, Array.length_toList, hds', Nat.mul_one]
    by_cases hi : i < rows.length
    ·have hi' : i < d'.size := by omega
     have hic : i < cur.size := by omega
     rw [if_pos hi]
     unfold Go.Sort.putCells
     simp [hic, hi', enc]
    ·rw [if_neg hi, List.getElem?_eq_none (by simp; omega)]
     rfl
  ·have hj' : j < rows.length := by simpa [hds'] using hj
   have hjd : j < d'.size := by omega
   have e1 : valAt (d'.toList.map fun p => p.1.1) j = (d'[j]).1.1 := by
    unfold valAt
    rw [List.getD_eq_getElem?_getD, List.getElem?_map, List.getElem?_eq_getElem (by simpa using hjd)]
    rfl
   have e2 : rowAt (d'.toList.map fun p => p.1.2) j = (d'[j]).1.2 := by
    unfold rowAt
    rw [List.getD_eq_getElem?_getD, List.getElem?_map, List.getElem?_eq_getElem (by simpa using hjd)]
    rfl
   rw [e1, e2]
   exact (d'[j]).2.1.kept hgr (d'[j]).2.2
  ·rw [List.pairwise_map, List.pairwise_iff_getElem]
   intro i j hi hj hij
   simp only [Array.length_toList] at hi hj
   have := hs i j (Nat.zero_le _) hij (by omega)
   rw [getElem!_pos d' i hi, getElem!_pos d' j hj] at this
   unfold Go.Proofs.ltOf at this
   have := of_decide_eq_false this
   simpa using this
end Go.Proofs.YteiaeaciaglmgaaGreat
namespace Go.Proofs.YteiaeaciaglmgaaGreat
def padL (p : List Int) : List Int := p ++ List.replicate (8 - p.length) 0
theorem padL_len {p : List Int} (h : p.length ≤ 8) : (padL p).length = 8 := by unfold padL; simp; omega
theorem padL_take (p : List Int) : (padL p).take p.length = p := by unfold padL; simp
theorem padL_inj {p q : List Int} (h : padL p = padL q) (hl : p.length = q.length) : p = q := by
 rw [← padL_take p, h, hl, padL_take]
theorem padL_set {p : List Int} {j : Nat} (v : Int) (h : j < p.length) : (padL p).set j v = padL (p.set j v) := by
 unfold padL
 rw [List.set_append_left _ _ h, List.length_set]
theorem padL_mem {p : List Int} {x : Int} (h : x ∈ padL p) : x ∈ p ∨ x = 0 := by
 unfold padL at h
 rcases List.mem_append.1 h with h | h
 ·exact .inl h
 ·exact .inr (List.eq_of_mem_replicate h)
/-- the places of spots -/
def ofL (p ins : List Int) : List Int := ins.map fun x => (p.idxOf x : Int)
/-- the numbers of a permutation, from n on, put at places -/
def putsL (n : Int) (s π p : List Int) : List Int := p.mapIdx fun j x => if hasB s (j : Int) then n + nth π (s.idxOf (j : Int)) else x
theorem putsL_len (n : Int) (s π p : List Int) : (putsL n s π p).length = p.length := by unfold putsL; simp
theorem putsL_nth {n : Int} {s π p : List Int} {j : Nat} (h : j < p.length) : nth (putsL n s π p) j = if hasB s (j : Int) then n + nth π (s.idxOf (j : Int)) else nth p j := by
 rw [nth_lt (by rw [putsL_len]; exact h)]
 unfold putsL
 rw [List.getElem_mapIdx, nth_lt h]
theorem putsL_nil (n : Int) (π p : List Int) : putsL n [] π p = p := by
 refine ext_nth (putsL_len _ _ _ _) fun j hj => ?_
 rw [putsL_len] at hj
 rw [putsL_nth hj, if_neg (by simp [hasB])]
theorem putsL_succ {n : Int} {s π p : List Int} {i j : Nat} (hn : s.Nodup) (hi : i < s.length) (hj : nth s i = (j : Int)) (hjp : j < p.length) :
  putsL n (s.take (i + 1)) π p = (putsL n (s.take i) π p).set j (n + nth π i) := by
 have hni : nth s i ∉ s.take i := by
  intro hm
  obtain ⟨a, ha, he⟩ := List.mem_iff_getElem.1 hm
  rw [List.getElem_take] at he
  rw [List.length_take] at ha
  rw [← nth_lt (show a < s.length by omega)] at he
  have := nth_injC hn (by omega) hi he
  omega
 refine ext_nth (by rw [List.length_set, putsL_len, putsL_len]) fun t ht => ?_
 rw [putsL_len] at ht
 have e1 : nth ((putsL n (s.take i) π p).set j (n + nth π i)) t = if t = j then n + nth π i else nth (putsL n (s.take i) π p) t := by
  unfold nth
  rw [List.getD_eq_getElem?_getD, List.getElem?_set, List.getD_eq_getElem?_getD]
  by_cases h : t = j
  ·subst h; rw [if_pos rfl, if_pos rfl, if_pos (by rw [putsL_len]; exact ht)]; rfl
  ·rw [if_neg (fun e => h e.symm), if_neg h, List.getD_eq_getElem?_getD]
 rw [e1, putsL_nth ht, putsL_nth ht, hasB_take_succ hi]
 rw [nth_lt hi] at hni
 by_cases h : t = j
 ·subst h
  rw [if_pos rfl, hj, if_pos (by simp), List.take_succ_eq_append_getElem hi, ← hj, nth_lt hi, List.idxOf_append, if_neg hni]
  simp only [List.idxOf_cons_self, List.length_take]
  congr 2; omega
 ·rw [if_neg h]
  have hne : (nth s i == (t : Int)) = false := by rw [hj]; simp; omega
  rw [hne, Bool.or_false]
  by_cases hm : hasB (s.take i) (t : Int) = true
  ·rw [if_pos hm, if_pos hm, List.take_succ_eq_append_getElem hi, List.idxOf_append, if_pos (hasB_mem.1 hm)]
  ·rw [if_neg hm, if_neg hm]
theorem mem_ofL {p ins : List Int} (hp : p.Nodup) (hi : ∀ x ∈ ins, x ∈ p) {t : Nat} (ht : t < p.length) : (t : Int) ∈ ofL p ins ↔ nth p t ∈ ins := by
 unfold ofL
 simp only [List.mem_map]
 constructor
 ·rintro ⟨x, hx, he⟩
  have h1 : p.idxOf x = t := by omega
  have := List.getElem_idxOf (List.idxOf_lt_length_of_mem (hi x hx))
  rw [nth_lt ht]
  simp only [h1] at this
  rw [this]; exact hx
 ·intro h
  refine ⟨_, h, ?_⟩
  rw [nth_lt ht, hp.idxOf_getElem]
theorem ofL_nodup {p ins : List Int} (hin : ins.Nodup) (hi : ∀ x ∈ ins, x ∈ p) : (ofL p ins).Nodup := by
 unfold ofL
 refine List.pairwise_map.2 (hin.imp_of_mem fun {a b} ha hb hne e => hne (idx_inj (hi a ha) (hi b hb) (by omega)))
theorem ofL_idx {p ins : List Int} (hin : ins.Nodup) (hi : ∀ x ∈ ins, x ∈ p) {x : Int} (hx : x ∈ ins) : (ofL p ins).idxOf (p.idxOf x : Int) = ins.idxOf x := by
 have hl := List.idxOf_lt_length_of_mem hx
 have h1 : (ofL p ins)[ins.idxOf x]'(by unfold ofL; rw [List.length_map]; exact hl) = (p.idxOf x : Int) := by
  unfold ofL
  rw [List.getElem_map, List.getElem_idxOf hl]
 rw [← h1]
 exact (ofL_nodup hin hi).idxOf_getElem _ _
theorem nth_map {l : List Int} {g : Int → Int} {i : Nat} (h : i < l.length) : nth (l.map g) i = g (nth l i) := by
 rw [nth_lt (by simpa using h), nth_lt h, List.getElem_map]
/-- the lot in its own order -/
theorem puts_of {p ins π : List Int} {n : Int} (hp : p.Nodup) (hi : ∀ x ∈ ins, x ∈ p) (hin : ins.Nodup) : putsL n (ofL p ins) π p = moveL ins π n p := by
 refine ext_nth (by rw [putsL_len]; simp [moveL]) fun t ht => ?_
 rw [putsL_len] at ht
 rw [putsL_nth ht, nth_move ht]
 unfold mvI
 by_cases h : nth p t ∈ ins
 ·rw [if_pos (hasB_mem.2 ((mem_ofL hp hi ht).2 h)), if_pos (hasB_mem.2 h)]
  have hx : p.idxOf (nth p t) = t := by rw [nth_lt ht, hp.idxOf_getElem]
  have := ofL_idx hin hi h
  rw [hx] at this
  rw [this]
 ·rw [if_neg (fun e => h ((mem_ofL hp hi ht).1 (hasB_mem.1 e))), if_neg (fun e => h (hasB_mem.1 e))]
def sigL (p ins s : List Int) : List Int := ins.map fun x => (s.idxOf (p.idxOf x : Int) : Int)
def compL (σ π : List Int) : List Int := σ.map fun j => nth π j.toNat
theorem sig_perm {p ins s : List Int} (hin : ins.Nodup) (hi : ∀ x ∈ ins, x ∈ p) (hs : s.Perm (ofL p ins)) : permB (sigL p ins s) (ins.length : Int) = true := by
 have hsl : s.length = ins.length := by rw [hs.length_eq]; simp [ofL]
 have hms : ∀ x ∈ ins, (p.idxOf x : Int) ∈ s := fun x hx => hs.mem_iff.2 (List.mem_map.2 ⟨x, hx, rfl⟩)
 unfold permB inB diffB sigL
 simp only [Bool.and_eq_true, decide_eq_true_eq, List.all_eq_true, List.mem_map, List.length_map, true_and]
 refine ⟨?_, ?_⟩
 ·rintro y ⟨x, hx, rfl⟩
  have := List.idxOf_lt_length_of_mem (hms x hx)
  omega
 ·refine List.pairwise_map.2 (hin.imp_of_mem fun {a b} ha hb hne e => hne ?_)
  have h1 := idx_inj (hms a ha) (hms b hb) (by omega)
  exact idx_inj (hi a ha) (hi b hb) (by omega)
theorem puts_move {p ins s π : List Int} {n : Int} (hp : p.Nodup) (hi : ∀ x ∈ ins, x ∈ p) (hin : ins.Nodup) (hs : s.Perm (ofL p ins)) :
  putsL n s π p = moveL ins (compL (sigL p ins s) π) n p := by
 refine ext_nth (by rw [putsL_len]; simp [moveL]) fun t ht => ?_
 rw [putsL_len] at ht
 rw [putsL_nth ht, nth_move ht]
 unfold mvI
 have hiff : hasB s (t : Int) = true ↔ nth p t ∈ ins := by rw [hasB_mem, hs.mem_iff, mem_ofL hp hi ht]
 by_cases h : nth p t ∈ ins
 ·rw [if_pos (hiff.2 h), if_pos (hasB_mem.2 h)]
  have hl := List.idxOf_lt_length_of_mem h
  have hx : p.idxOf (nth p t) = t := by rw [nth_lt ht, hp.idxOf_getElem]
  unfold compL sigL
  rw [nth_map (by simpa using hl), nth_map hl]
  have h2 : nth ins (ins.idxOf (nth p t)) = nth p t := by rw [nth_lt hl, List.getElem_idxOf]
  rw [h2, hx]
  simp
 ·rw [if_neg (fun e => h (hiff.1 e)), if_neg (fun e => h (hasB_mem.1 e))]
theorem comp_perm {σ π : List Int} {m : Nat} (hσ : permB σ (m : Int) = true) (hπ : permB π (m : Int) = true) : permB (compL σ π) (m : Int) = true := by
 obtain ⟨a1, a2, a3⟩ := permB_parts hσ
 obtain ⟨b1, b2, b3⟩ := permB_parts hπ
 unfold permB inB diffB compL
 simp only [Bool.and_eq_true, decide_eq_true_eq, List.all_eq_true, List.mem_map, List.length_map]
 refine ⟨?_, by omega, ?_⟩
 ·rintro y ⟨x, hx, rfl⟩
  have := a1 x hx
  exact b1 _ (nth_mem' (by omega))
 ·refine List.pairwise_map.2 (a3.imp_of_mem fun {a b} ha hb hne e => hne ?_)
  have h1 := a1 a ha
  have h2 := a1 b hb
  have := nth_injC b3 (by omega) (by omega) e
  omega
theorem comp_onto {σ ρ : List Int} {m : Nat} (hσ : permB σ (m : Int) = true) (hρ : permB ρ (m : Int) = true) : ∃ π, permB π (m : Int) = true ∧ compL σ π = ρ := by
 obtain ⟨a1, a2, a3⟩ := permB_parts hσ
 obtain ⟨b1, b2, b3⟩ := permB_parts hρ
 have hmem : ∀ j, j < m → σ.idxOf (j : Int) < m := fun j hj => by rw [← a2]; exact List.idxOf_lt_length_of_mem (full_of hσ hj)
 refine ⟨(List.range m).map fun (j : Nat) => nth ρ (σ.idxOf (j : Int)), ?_, ?_⟩
 ·unfold permB inB diffB
  simp only [Bool.and_eq_true, decide_eq_true_eq, List.all_eq_true, List.mem_map, List.mem_range, List.length_map, List.length_range, true_and]
  refine ⟨?_, ?_⟩
  ·rintro y ⟨j, hj, rfl⟩
   have := hmem j hj
   exact b1 _ (nth_mem' (by omega))
  ·refine List.pairwise_map.2 (List.nodup_range.imp_of_mem fun {a b} ha hb hne e => hne ?_)
   have ha' := List.mem_range.1 ha
   have hb' := List.mem_range.1 hb
   have h1 := nth_injC b3 (by have := hmem a ha'; omega) (by have := hmem b hb'; omega) e
   have := idx_inj (full_of hσ ha') (full_of hσ hb') h1
   omega
 ·refine ext_nth (by unfold compL; rw [List.length_map]; omega) fun t ht => ?_
  unfold compL at ht ⊢
  rw [List.length_map] at ht
  rw [nth_map ht]
  have h1 := a1 _ (nth_mem' ht)
  rw [nth_lt (by simp; omega), List.getElem_map, List.getElem_range]
  have h2 : (((nth σ t).toNat : Nat) : Int) = nth σ t := Int.toNat_of_nonneg h1.1
  rw [h2]
  congr 1
  rw [nth_lt ht, a3.idxOf_getElem]
/-- numbers from n on turned by a permutation -/
def renI (n : Int) (π : List Int) (x : Int) : Int := if x < n then x else n + nth π (x - n).toNat
theorem ren_move {ins σ π p : List Int} {n : Int} (hσ : permB σ (ins.length : Int) = true) (hp : ∀ x ∈ p, x < n) : (moveL ins σ n p).map (renI n π) = moveL ins (compL σ π) n p := by
 obtain ⟨a1, a2, a3⟩ := permB_parts hσ
 unfold moveL
 rw [List.map_map]
 refine List.map_congr_left fun x hx => ?_
 show renI n π (mvI ins σ n x) = mvI ins (compL σ π) n x
 by_cases h : x ∈ ins
 ·have hl := List.idxOf_lt_length_of_mem h
  unfold mvI
  rw [if_pos (hasB_mem.2 h), if_pos (hasB_mem.2 h)]
  have h1 := a1 _ (nth_mem' (l := σ) (i := ins.idxOf x) (by omega))
  unfold renI compL
  rw [if_neg (by omega), nth_map (by omega)]
  congr 2; omega
 ·rw [mv_out h, mv_out h]
  unfold renI
  rw [if_pos (hp x hx)]
variable {f : Flow} {k : Nat}
theorem ins_in {p : List Int} (hl : lotB f k = true) (h : AllAt f k p) : p.Nodup ∧ (∀ x ∈ (lotAt f.lots k).ins, x ∈ p) ∧ (lotAt f.lots k).ins.Nodup ∧ ∀ x ∈ p, x < beforeI f k := by
 obtain ⟨h1, h2, h3, h4, h5⟩ := lotB_parts hl
 exact ⟨h.1, fun x hx => (h.2 x).2 (h3 x hx), h2, fun x hx => ((h.2 x).1 hx).2.1⟩
/-- a known lot, in its own order -/
theorem outs_known {p : List Int} (hl : lotB f k = true) (h : AllAt f k p) (x : List Int) : x ∈ outsL f k p ↔ ∃ π ∈ permsOf (lotAt f.lots k), x = putsL (beforeI f k) (ofL p (lotAt f.lots k).ins) π p := by
 obtain ⟨h1, h2, h3, h4⟩ := ins_in hl h
 unfold outsL
 simp only [List.mem_map, puts_of h1 h2 h3]
 constructor
 ·rintro ⟨π, hπ, rfl⟩; exact ⟨π, hπ, rfl⟩
 ·rintro ⟨π, hπ, rfl⟩; exact ⟨π, hπ, rfl⟩
/-- an unknown lot, in any order -/
theorem outs_unknown {p s : List Int} (hl : lotB f k = true) (h : AllAt f k p) (hu : (lotAt f.lots k).known = false) (hs : s.Perm (ofL p (lotAt f.lots k).ins)) (x : List Int) :
  x ∈ outsL f k p ↔ ∃ π ∈ permsOf (lotAt f.lots k), x = putsL (beforeI f k) s π p := by
 obtain ⟨h1, h2, h3, h4⟩ := ins_in hl h
 have hsg := sig_perm h3 h2 hs
 have hpo : ∀ π, π ∈ permsOf (lotAt f.lots k) ↔ permB π ((lotAt f.lots k).ins.length : Int) = true := fun π => by unfold permsOf; rw [hu]; exact mem_permsL
 unfold outsL
 simp only [List.mem_map, puts_move h1 h2 h3 hs, hpo]
 constructor
 ·rintro ⟨ρ, hρ, rfl⟩
  obtain ⟨π, hπ, he⟩ := comp_onto hsg hρ
  exact ⟨π, hπ, by rw [he]⟩
 ·rintro ⟨π, hπ, rfl⟩
  exact ⟨_, comp_perm hsg hπ, rfl⟩
theorem comp_id {σ : List Int} {m : Nat} (hσ : permB σ (m : Int) = true) : compL σ (idL m) = σ := by
 obtain ⟨a1, a2, a3⟩ := permB_parts hσ
 unfold compL
 conv => rhs; rw [← List.map_id σ]
 refine List.map_congr_left fun x hx => ?_
 have := a1 x hx
 unfold idL
 rw [nth_lt (by simp; omega), List.getElem_map, List.getElem_range]
 show ((x.toNat : Nat) : Int) = x
 omega
/-- states with the same senders in the lot lead to the same states -/
theorem outs_same {p p' s s' : List Int} (hl : lotB f k = true) (h : AllAt f k p) (h' : AllAt f k p') (hu : (lotAt f.lots k).known = false) (hs : s.Perm (ofL p (lotAt f.lots k).ins)) (hs' : s'.Perm (ofL p' (lotAt f.lots k).ins))
  (he : putsL (beforeI f k) s (idL (lotAt f.lots k).ins.length) p = putsL (beforeI f k) s' (idL (lotAt f.lots k).ins.length) p') (x : List Int) : x ∈ outsL f k p ↔ x ∈ outsL f k p' := by
 have key : ∀ {p s : List Int}, AllAt f k p → s.Perm (ofL p (lotAt f.lots k).ins) → (x ∈ outsL f k p ↔ ∃ π ∈ permsOf (lotAt f.lots k), x = (putsL (beforeI f k) s (idL (lotAt f.lots k).ins.length) p).map (renI (beforeI f k) π)) := by
  intro p s h hs
  obtain ⟨h1, h2, h3, h4⟩ := ins_in hl h
  have hsg := sig_perm h3 h2 hs
  rw [outs_unknown hl h hu hs, puts_move h1 h2 h3 hs, comp_id hsg]
  simp only [ren_move hsg h4, puts_move h1 h2 h3 hs]
 rw [key h hs, key h' hs', he]
end Go.Proofs.YteiaeaciaglmgaaGreat
namespace Go.Proofs.YteiaeaciaglmgaaGreat
open Go.RowKit
theorem upd_self (L : Nat → Bool) (i : Nat) : upd L i i = true := by unfold upd; simp
theorem upd_ne {L : Nat → Bool} {i j : Nat} (h : j ≠ i) : upd L i j = L j := by unfold upd; simp [h]
end Go.Proofs.YteiaeaciaglmgaaGreat
namespace Go.Proofs.YteiaeaciaglmgaaGreat
open Go.RowKit
theorem below_drewN {B : Nat} {w w' : World} (h : Below B w w') (n : Nat) : Below B w (w'.drewN n) := h.trans (Drew.below ⟨n, rfl⟩ B)
end Go.Proofs.YteiaeaciaglmgaaGreat
namespace Go.Proofs.YteiaeaciaglmgaaGreat
open Go.RowKit
theorem ins_few {f : Flow} {k : Nat} (h0 : 0 ≤ f.senders) (hl : lotsB f f.lots.length = true) (hk : k < f.lots.length) : ((lotAt f.lots k).ins.length : Int) ≤ f.senders := by
 have hlk : lotsB f k = true := by
  cases h : lotsB f k with
  | true => rfl
  | false => rw [lotsB_false h (Nat.le_of_lt hk)] at hl; cases hl
 obtain ⟨p, hp⟩ := List.exists_mem_of_ne_nil _ (asg_ne h0 k hlk)
 have ha := asg_all h0 k hlk p hp
 obtain ⟨_, h2, h3, _⟩ := ins_in (lotsB_lot hl hk) ha
 have := nodup_len h3 h2
 rw [asg_len k p hp] at this
 omega
theorem many_at {f : Flow} {k m : Nat} (h : 5040 < (asgTo f (k + 1)).length) (hk : k < m) : manyTo f m = true := by
 induction m with
 | zero => omega
 | succ m ih =>
  simp only [manyTo, Bool.or_eq_true, decide_eq_true_eq]
  by_cases e : k = m
  ·subst e; exact .inr h
  ·exact .inl (ih (by omega))
/-- the first s numbers, and then nothing -/
def begL (n s : Nat) : List Int := (List.range s).map Int.ofNat ++ List.replicate (n - s) 0
theorem begL_len {n s : Nat} (h : s ≤ n) : (begL n s).length = n := by unfold begL; simp; omega
theorem begL_zero (n : Nat) : begL n 0 = List.replicate n 0 := by unfold begL; simp
theorem begL_set {n s : Nat} (h : s < n) : (begL n s).set s (s : Int) = begL n (s + 1) := by
 unfold begL
 rw [List.set_append_right _ _ (by simp), List.range_succ, List.map_append]
 simp only [List.length_map, List.length_range, Nat.sub_self]
 have : n - s = (n - (s + 1)) + 1 := by omega
 rw [this, List.replicate_succ, List.set_cons_zero]
 simp
end Go.Proofs.YteiaeaciaglmgaaGreat
namespace Go.Proofs.YteiaeaciaglmgaaGreat
open Go.RowKit
/-- the beginning of an array of eight numbers as a slice -/
theorem ints8 {w : World} {b n : Nat} {l : List Int} (h : Box w b (l.map (Value.int .i64)).toArray) (hl : l.length = 8) (hz : ∀ x ∈ l, I64 x) (hn : n ≤ 8) : IsInts w.heap.size w (.slice (some ⟨b, 0, none⟩) n 8) (l.take n) := by
 have hlen : (l.take n).length = n := by rw [List.length_take]; omega
 refine ⟨b, 0, 8, ⟨some ⟨b, 0, none⟩, by rw [hlen], by omega, by omega, Or.inl rfl⟩, by omega, fun x hx => hz x (List.mem_of_mem_take hx), fun j hj => ⟨h.1, ?_⟩⟩
 rw [h.2, Nat.zero_add, nth_lt hj]
 have hj' : j < l.length := by omega
 simp [hj']
set_option maxHeartbeats 2000000 in
set_option maxRecDepth 100000 in
/-- the closure of count.All that cuts an array -/
theorem cut_any (w : World) (k : K8) (bf : Nat) (vl : Value) (n : Nat) (hn : n ≤ 8) (hx : Box w bf #[.int .i64 (n : Int), vl]) :
  Calls Tryz.prog 44 #[enc8 k, .pointer (some ⟨bf, 0, none⟩)] w fun e w' => ∃ v, e = .returned v ∧ OwnInts w.heap.size w' v (k.1.take n) ∧ Below w.heap.size w w' := by
 obtain ⟨zx, rx⟩ := hx
 have r0 := rx 0
 simp only [List.getElem?_toArray, List.getElem?_cons_zero] at r0
 have hn9 : (n : Int) ≤ 8 := by omega
 clear rx
 have hk : enc8 k = .agg (k.1.map (Value.int .i64)).toArray := rfl
 rw [hk]
 have HKL := Lib.hid k.2.1
 have HKI := Lib.hid k.2.2
 obtain ⟨l, hl⟩ := k
 obtain ⟨arr, harr⟩ : ∃ arr, (l.map (Value.int .i64)).toArray = arr := ⟨_, rfl⟩
 simp only [harr]
 have HAR := Lib.hid harr
 clear harr hk
 have hlen : (l.take n).length = n := by have := HKL.out; rw [List.length_take]; omega
 have hcl := clone_any _ w.heap.size 0 8 (w.alloc (.cells arr 78)) (l.take n) (by rw [hlen]; exact ints8 (by rw [HAR.out]; exact Box.new w arr _) HKL.out HKI.out hn) (Nat.le_refl _)
 rw [hlen] at hcl
 have HCL := Lib.hid hcl
 clear hcl hlen hn HKL HKI hl
 go_enter Tryz.func44, Tryz.ntmps44
 go_wp2_with (go_at_call 45; refine HCL.out.mono ?_; rintro e w5 ⟨v, rfl, h1, h2⟩; have H1 := Lib.hid h1; have H2 := Lib.hid h2; clear h1 h2)
 go_ret
 exact ⟨_, rfl, H1.out.mono (by simp), (box_below' w _).trans (H2.out.mono (by simp))⟩
end Go.Proofs.YteiaeaciaglmgaaGreat
namespace Go.Proofs.YteiaeaciaglmgaaGreat
open Go.RowKit Go.MapKept
section
variable {α : Type} {enc : α → Value} {P : Program} {w : World} {ops : Array Oper} {rest : List Oper} {o : Oper} {a : Act} {Q : Exit → Act → World → Prop}
theorem KIter.count {bm r : Nat} {l left : List (α × Value)} (h : KIter enc w bm r l left) : iterLeft w bm r = left.length := by
 obtain ⟨es, c, seen, c0, h1, h2, h3, h4, h5, h6⟩ := h
 unfold iterLeft
 rw [h1, h2]
 have := congrArg List.length h6
 simpa using this
theorem wpList_next_kdone {bm r : Nat} {l left : List (α × Value)} (hg : Region.wanted o (yielded ops a.tmps) = true) (it : Operand) (hop : o.op = Op.next it false) (hit : a.eval it = .pointer (some ⟨r, 0, none⟩)) (h : KIter enc w bm r l left) (hne : r ≠ bm) (he : left = [])
  (hk : wpList P ops Q rest (a.put o.dst (.tuple #[.bool false])) w) : wpList P ops Q (o :: rest) a w :=
 wpList_next_k hg it hop hit h hne (fun _ => hk) (fun A x v B w' e => by rw [he] at e; simp at e)
theorem wpList_next_kmore {bm r : Nat} {l left : List (α × Value)} (hg : Region.wanted o (yielded ops a.tmps) = true) (it : Operand) (hop : o.op = Op.next it false) (hit : a.eval it = .pointer (some ⟨r, 0, none⟩)) (h : KIter enc w bm r l left) (hne : r ≠ bm) (he : left ≠ [])
  (hk : ∀ (A : List (α × Value)) (x : α) (v : Value) (B : List (α × Value)) (w' : World), left = A ++ (x, v) :: B → KIter enc w' bm r l (A ++ B) → w.grownBy w' (some r) → w'.heap.size = w.heap.size →
   (Instr.entry (.pointer (some ⟨r, 0, none⟩))).run P w' = .ok (.tuple #[enc x, v]) w' → wpList P ops Q rest (a.put o.dst (.tuple #[.bool true, enc x, v])) w') : wpList P ops Q (o :: rest) a w :=
 wpList_next_k hg it hop hit h hne (fun e => absurd e he) hk
end
end Go.Proofs.YteiaeaciaglmgaaGreat
namespace Go.Proofs.YteiaeaciaglmgaaGreat
open Go.RowKit
theorem OwnInts.iter {C r : Nat} {w w' : World} {v : Value} {xs : List Int} (h : OwnInts C w v xs) (hg : w.grownBy w' (some r)) (hr : ∀ c t f, w.heap[r]? ≠ some (.cells c t f)) : OwnInts C w' v xs := by
 refine h.kept hg ?_
 rcases h.1.2 with ⟨rfl, _⟩ | ⟨g, cap, cur, rfl, hb, hgc, _⟩
 ·exact Or.inl rfl
 ·right
  simp only [Value.ownBlock, ne_eq, Option.some.injEq]
  rintro rfl
  exact hr _ _ _ hgc
theorem OwnMat.iter {C r : Nat} {w w' : World} {v : Value} {rows : List (List Int)} (h : OwnMat C w v rows) (hg : w.grownBy w' (some r)) (hr : ∀ c t f, w.heap[r]? ≠ some (.cells c t f)) : OwnMat C w' v rows := by
 obtain ⟨vals, h1, h2, h3⟩ := h
 refine ⟨vals, h1.kept hg ?_, h2, fun j hj => (h3 j hj).iter hg hr⟩
 rcases h1.2 with ⟨rfl, _⟩ | ⟨g, cap, cur, rfl, hb, hgc, _⟩
 ·exact Or.inl rfl
 ·right
  simp only [Value.ownBlock, ne_eq, Option.some.injEq]
  rintro rfl
  exact hr _ _ _ hgc
theorem KIter.notCells {enc : K8 → Value} {w : World} {bm r : Nat} {l left : List (K8 × Value)} (h : KIter enc w bm r l left) : (∀ c t f, w.heap[r]? ≠ some (.cells c t f)) ∧ ∀ c t f, w.heap[bm]? ≠ some (.cells c t f) := by
 obtain ⟨es, c, seen, c0, a, b, _⟩ := h
 exact ⟨fun _ _ _ e => by (rw [b] at e; cases e), fun _ _ _ e => by (rw [a] at e; cases e)⟩
theorem OwnMat.notIn {C r : Nat} {w : World} {v : Value} {rows : List (List Int)} (h : OwnMat C w v rows) (hr : ∀ c t f, w.heap[r]? ≠ some (.cells c t f)) : v.ownBlock ≠ some r := by
 obtain ⟨vals, h1, _⟩ := h
 rcases h1.2 with ⟨rfl, _⟩ | ⟨g, cap, cur, rfl, hb, hgc, _⟩
 ·simp [Value.ownBlock]
 ·simp only [Value.ownBlock, ne_eq, Option.some.injEq]
  rintro rfl
  exact hr _ _ _ hgc
/-- what sorted has gathered -/
def GathRel (w : World) (bm ri n : Nat) (Ls : List (K8 × Value)) (v : Value) (wr : World) : Prop :=
 ∃ left rows, KIter enc8 wr bm ri Ls left ∧ OwnMat w.heap.size wr v rows ∧ (rows ++ left.map fun p => p.1.1.take n).Perm (Ls.map fun p => p.1.1.take n) ∧ Below w.heap.size w wr
set_option maxHeartbeats 4000000 in
set_option maxRecDepth 100000 in
theorem csorted_any (w : World) (bm bf n : Nat) (Ls : List (K8 × Value)) (vl : Value) (hn : n ≤ 8) (hm : KMap enc8 w bm Ls) (hx : Box w bf #[.int .i64 (n : Int), vl]) (hne : Ls ≠ []) (hlen : Ls.length ≤ 100000) :
  Calls Tryz.prog 43 #[.map (some bm), .func (.func 44) #[] #[.pointer (some ⟨bf, 0, none⟩)]] w fun e w' => ∃ v rows, e = .returned v ∧ OwnMat w.heap.size w' v rows ∧
   rows.Perm (Ls.map fun p => p.1.1.take n) ∧ rows.Pairwise (fun a b => ¬ cmpL b a < 0) ∧ Below w.heap.size w w' := by
 have HM := Lib.hid hm
 have HX := Lib.hid hx
 have HN := Lib.hid hn
 have HNE := Lib.hid hne
 have HLN := Lib.hid hlen
 have hbm := hm.lt
 clear hm hx hn hne hlen
 go_enter Tryz.func43, Tryz.ntmps43
 go_wp2_with (at_range; refine wpList_range_k rfl (.tmp 6) rfl Tryz.underlying79 rfl HM.out ?_; intro w9 hit9 hb9 hz9; have HIT9 := Lib.hid hit9; have HB9 := Lib.hid hb9; have HZ9 := Lib.hid hz9; clear hit9 hb9 hz9)
 have hne9 : w.heap.size ≠ bm := by omega
 have HR9 : Hid (GathRel w bm w.heap.size n Ls (.slice none 0 0) w9) := Lib.hid ⟨Ls, [], HIT9.out, OwnMat.nil _ _, by simp, HB9.out⟩
 go_simp
 go_loopw [4] (fun v W => GathRel w bm w.heap.size n Ls v W) (fun _ W => iterLeft W bm w.heap.size)
 case atStart => exact HR9.out
 case round =>
  obtain ⟨left, rows, hit, hown, hperm, hbl⟩ := hrel
  have HIT := Lib.hid hit
  have HLEFT := Lib.hid hit.count
  have HOWN := Lib.hid hown
  have HPERM := Lib.hid hperm
  have HBL := Lib.hid hbl
  have hrl : rows.length + left.length = Ls.length := by simpa using hperm.length_eq
  have HRL := Lib.hid hrl
  clear HR9 hit hperm hbl hrl
  obtain ⟨wA, rfl⟩ : ∃ W, W = wr := ⟨_, rfl⟩
  by_cases hlw : left = []
  ·have HLW := Lib.hid hlw
   have hrn : rows ≠ [] := by
    intro e
    have h1 := HRL.out
    rw [e, hlw] at h1
    exact HNE.out (List.length_eq_zero_iff.1 (by simpa using h1.symm))
   have HSR := Lib.hid (sort_rows hown hrn)
   have HLT := Lib.hid (fun k hk => hown.choose_spec.1.lt k hk)
   clear hown hrn
   go_wp2_with (first
    | (at_next; refine wpList_next_kdone rfl (.tmp 7) rfl rfl HIT.out hne9 HLW.out ?_)
    | (go_at_call 67; refine HSR.out.mono ?_; rintro e w5 ⟨rfl, rows', h1, h2, h3, h4⟩; have H1 := Lib.hid h1; have H2 := Lib.hid h2; have H3 := Lib.hid h3; have H4 := Lib.hid h4; clear h1 h2 h3 h4))
   go_ret
   refine ⟨_, rfl, rows', H1.out, ?_, H3.out.imp (fun h => by omega), HBL.out.grown H4.out HBL.out.size (fun k hk => (HLT.out k hk).1)⟩
   have h := HPERM.out
   rw [HLW.out, List.map_nil, List.append_nil] at h
   exact H2.out.trans h
  ·have HNN := Lib.hid hlw
   clear hown
   go_wp2_with (first
    | (at_next; refine wpList_next_kmore rfl (.tmp 7) rfl rfl HIT.out hne9 HNN.out ?_; intro A x v B w3 hlw2 hit3 hg3 hz3 hen; have HIT3 := Lib.hid hit3; have HG3 := Lib.hid hg3; have HLW2 := Lib.hid hlw2; have HZ3 := Lib.hid hz3; rw [enc8_arr8 x] at hen ⊢; obtain ⟨arr, harr⟩ : ∃ arr, arrN x.1 = arr := ⟨_, rfl⟩; have HAR := Lib.hid harr; have HX8 := Lib.hid x.2.1; have HRW := Lib.hid (Row8.new w3 x.2.1); have HB3 : Hid (Below w.heap.size w w3) := Lib.hid (HBL.out.grown hg3 HBL.out.size (fun j hj => by cases hj; exact Nat.le_refl _)); have HCUT := Lib.hid (cut_any (w3.alloc (.cells (arrN x.1) 78)) x bf vl n HN.out ((HX.out.below HB3.out HX.out.1).alloc _)); have HO3 := Lib.hid (HOWN.out.iter hg3 HIT.out.notCells.1); rw [enc8_arr8, harr] at HCUT; rw [harr] at hen HRW ⊢; clear hit3 hg3 hz3 hlw2 harr)
    | ((with_reducible refine wpList_store8 (.tmp 5) (.tmp 11) HX8.out ?_ ?_ ?_ ?_ ?_); rotate_left; rfl; rfl; rfl; (rw [HAR.out]; rfl); rw [HAR.out])
    | ((with_reducible refine wpList_load8 (.tmp 5) HRW.out ?_ ?_ ?_ ?_); rotate_left; rfl; rfl; rfl; rw [HAR.out])
    | (go_at_call 44; refine HCUT.out.mono ?_; rintro e w5 ⟨v5, rfl, ho5, hb5⟩; obtain ⟨a5, n5, c5, rfl⟩ := ho5.form'; have HO5 := Lib.hid ho5; have HB5 : Hid (Below w3.heap.size w3 w5) := Lib.hid ((box_below' w3 _).trans (hb5.mono (by simp))); clear ho5 hb5)
    | (at_builtin; refine append_row_at (B := w.heap.size) (xs := x.1.take n) (r := .slice a5 n5 c5) rfl (.tmp 12) (.tmp 16) rfl rfl ((HO3.out.below HB5.out).alloc _) rfl ?c1 ((HO5.out.mono ?c2).alloc _) ?c3 ?c4 ?c5))
   try (case c1 => exact World.cell?_alloc_at _ _ _ _ rfl)
   case c2 => have := HB3.out.size; simp; omega
   case c3 => have := HRL.out; have := HLN.out; omega
   case c4 => have := HB3.out.size; have := HB5.out.size; simp; omega
   case c5 =>
    intro v6 w6 ho6 hg6 hat6
    have HO6 := Lib.hid ho6
    have HB6 : Hid (Below w.heap.size w w6) := Lib.hid (((HB3.out.trans (HB5.out.mono HB3.out.size)).alloc (by have := HB3.out.size; have := HB5.out.size; omega) _).grown hg6 (by have := HB3.out.size; have := HB5.out.size; simp; omega) (fun q hq => by obtain ⟨vals, hv, _⟩ := HO3.out; exact (hv.lt q hq).1))
    have HI6 : Hid (KIter enc8 w6 bm w.heap.size Ls (A ++ B)) := Lib.hid (by
     have h1 := (HIT3.out.ext HB5.out).alloc (.cells #[Value.slice a5 n5 c5] 25)
     have h2 := (HO3.out.below HB5.out).alloc (.cells #[Value.slice a5 n5 c5] 25)
     exact h1.kept hg6 (fun e => h2.notIn h1.notCells.2 e.symm) (fun e => h2.notIn h1.notCells.1 e.symm))
    clear ho6 hg6 hat6
    go_wp2
    go_roundw
    case rel =>
     refine ⟨A ++ B, _, HI6.out, HO6.out, ?_, HB6.out⟩
     have h := HPERM.out
     rw [HLW2.out] at h
     refine List.Perm.trans ?_ h
     simp only [List.map_append, List.map_cons, List.append_assoc]
     refine List.Perm.append_left _ ?_
     rw [List.singleton_append]
     exact (List.perm_middle (a := x.1.take n)).symm
    case measure =>
     rw [HI6.out.count, HLEFT.out, HLW2.out]
     simp
end Go.Proofs.YteiaeaciaglmgaaGreat
namespace Go.Proofs.YteiaeaciaglmgaaGreat
open Go.RowKit
def sortI (l : List Int) : List Int := l.mergeSort fun x y => decide (x ≤ y)
theorem sortI_perm (l : List Int) : (sortI l).Perm l := List.mergeSort_perm _ _
theorem sort_own {C : Nat} {w : World} {v : Value} {xs : List Int} (h : OwnInts C w v xs) :
  Calls Tryz.prog 41 #[v] w fun e w' => e = .returned (.tuple #[]) ∧ OwnInts C w' v (sortI xs) ∧ w.grownBy w' v.ownBlock := by
 have hlen : (sortI xs).length = xs.length := (sortI_perm xs).length_eq
 obtain ⟨⟨hl, h1⟩, h2, h3⟩ := h
 have h3' : ∀ x ∈ sortI xs, I64 x := fun x hx => h3 x ((sortI_perm xs).mem_iff.1 hx)
 rcases h1 with ⟨rfl, hn⟩ | ⟨g, cap, cur, rfl, hb, hg, hnc, hcm, hcs, htk⟩
 ·refine (Tryz.slices_Sort_int_none none 0 w).mono ?_
  rintro e w' ⟨rfl, rfl⟩
  obtain rfl : xs = [] := List.length_eq_zero_iff.1 hn
  exact ⟨rfl, by rw [show sortI [] = [] from by unfold sortI; simp]; exact OwnInts.nil _ _, World.grownBy.refl _ _⟩
 ·have hgl := (Array.getElem?_eq_some_iff.1 hg).1
  have hcell : ∀ j, j < xs.length → cur[j]? = some (.int .i64 (nth xs j)) := by
   intro j hj
   have : (cur.toList.take (xs.length * 1))[j]? = (xs.map (Value.int .i64))[j]? := by rw [htk]
   rw [List.getElem?_take, if_pos (by omega), List.getElem?_map, List.getElem?_eq_getElem hj] at this
   rw [nth_eq_getElem hj]
   simpa using this
  refine (Tryz.slices_Sort_int g 0 cap xs w (fun j hj => ?_) hgl (by unfold maxLen at hcm; omega)).mono ?_
  ·have hj' : j < xs.length := by simpa using hj
   refine ⟨?_, by simp [World.frozen?, hg]⟩
   simp only [World.cell?, hg, Nat.zero_add]
   rw [hcell j hj', nth_eq_getElem hj']
   simp [hj']
  ·rintro e w' ⟨rfl, n, os, rfl⟩
   obtain ⟨ds, hds⟩ : ∃ ds, sortI xs = ds := ⟨_, rfl⟩
   rw [show (xs.mergeSort fun x y => decide (x ≤ y)) = ds from hds]
   rw [hds] at hlen h3' ⊢
   have hblk : (Go.Sort.grow (Go.Sort.putRow (Value.int .i64) (Go.Sort.ahead w n) g 0 ds.toArray) os).heap[g]? = some (.cells (Go.Sort.putCells (Value.int .i64) 0 ds.toArray cur) 3 (0, 0)) := by
    unfold Go.Sort.grow Go.Sort.putRow Go.Sort.mapBlock
    show ((w.heap.modify g _) ++ os)[g]? = _
    rw [Array.getElem?_append_left (by simpa using hgl), Array.getElem?_modify, if_pos rfl, hg]
    rfl
   have hoth : ∀ k, k < w.heap.size → k ≠ g → (Go.Sort.grow (Go.Sort.putRow (Value.int .i64) (Go.Sort.ahead w n) g 0 ds.toArray) os).heap[k]? = w.heap[k]? := by
    intro k hk hne
    unfold Go.Sort.grow Go.Sort.putRow Go.Sort.mapBlock
    show ((w.heap.modify g _) ++ os)[k]? = _
    rw [Array.getElem?_append_left (by simpa using hk), Array.getElem?_modify, if_neg (fun e => hne e.symm)]
   refine ⟨rfl, ⟨⟨by simp, Or.inr ⟨g, cap, _, by rw [hlen], hb, hblk, by omega, hcm, ?_, ?_⟩⟩, by omega, h3'⟩, ⟨rfl, rfl, rfl, ?_, fun k hk hne => hoth k hk (fun e => hne (by rw [e]; rfl))⟩⟩
   ·unfold Go.Sort.putCells
    simpa using hcs
   ·apply List.ext_getElem?
    intro i
    rw [List.getElem?_take, List.getElem?_map]
    by_cases hi : i < ds.length
    ·rw [if_pos (by omega), List.getElem?_eq_getElem hi]
     unfold Go.Sort.putCells
     have hic : i < cur.size := by omega
     simp [hic, hi]
    ·rw [if_neg (by omega), List.getElem?_eq_none (by omega)]
     rfl
   ·unfold Go.Sort.grow Go.Sort.putRow Go.Sort.mapBlock
    show w.heap.size ≤ ((w.heap.modify g _) ++ os).size
    simp
end Go.Proofs.YteiaeaciaglmgaaGreat
namespace Go.Proofs.YteiaeaciaglmgaaGreat
open Go.RowKit Go.Maps
section
variable {F : Fence} {nF : Nat} {ops : Array Oper} {rest : List Oper} {o : Oper} {a : Act} {w : World} {Q : Exit → Act → World → Prop}
theorem wpListIn_load8 (x : Operand) {b : Nat} {l : List Int} (h : Row8 w b l) (hk : wpListIn F nF Tryz.prog ops Q rest (a.put o.dst (.agg (arrN l))) w) (hgd : o.guard = none) (ho : o.op = .load 78 x) (hx : a.eval x = .pointer (some ⟨b, 0, none⟩)) :
  wpListIn F nF Tryz.prog ops Q (o :: rest) a w := by
 refine wpListIn_plain hgd fun K hK => ?_
 have hr := run_loadVar_row (P := Tryz.prog) w b 78 78 (arrN l) (0, 0) _ h.1 Tryz.underlying78 rfl (by rw [arrN_size, h.2]; kernel_rfl)
 unfold Oper.wpIn
 refine ⟨by simp [Oper.about, ho], ?_⟩
 rw [Oper.semAt_plain F _ _ (by rw [ho]; intro c hc'; cases hc')]
 unfold execOp
 simp only [ho, hx, Instr.loadAt, Instr.sureAddr, Sem.run_bind, Sem.run_pure, Result.andThen_ok, hr]
 exact hK _ _ hk
theorem wpListIn_store8 (p v : Operand) {l : List Int} (hl : l.length = 8) (hk : wpListIn F nF Tryz.prog ops Q rest (a.put o.dst undef) (w.alloc (.cells (arrN l) 78))) (hgd : o.guard = none) (ho : o.op = .store 78 p v) (hp : a.eval p = .pointer (some ⟨w.heap.size, 0, none⟩)) (hv : a.eval v = .agg (arrN l)) :
  wpListIn F nF Tryz.prog ops Q (o :: rest) a (w.alloc (.cells #[.int .i64 0, .int .i64 0, .int .i64 0, .int .i64 0, .int .i64 0, .int .i64 0, .int .i64 0, .int .i64 0] 78)) := by
 refine wpListIn_plain hgd fun K hK => ?_
 have hr := run_storeAt_new (P := Tryz.prog) w 78 #[.int .i64 0, .int .i64 0, .int .i64 0, .int .i64 0, .int .i64 0, .int .i64 0, .int .i64 0, .int .i64 0] (arrN l) (by rw [info8, arrN_size, hl]) (by rw [arrN_size, hl]; rfl) (arrN_one l)
 unfold Oper.wpIn
 refine ⟨by simp [Oper.about, ho], ?_⟩
 rw [Oper.semAt_plain F _ _ (by rw [ho]; intro c hc'; cases hc')]
 simp only [execOp, ho, hp, hv]
 simp [hr, Result.andThen]
 exact hK _ _ hk
theorem wpListIn_update_k {α : Type} {enc : α → Value} {P : Program} {T K E : TypeId} {r : Nat} {l : List (α × Value)} [DecidableEq α] (C : KeyEnc P K enc) (hg : Region.wanted o (yielded ops a.tmps) = true) (m xo vo : Operand) (hop : o.op = Op.mapUpdate T m xo vo)
  (hT : P.underlying T = some (.map K E)) (hm : a.eval m = .map (some r)) (h : KMap enc w r l) {x : α} {v : Value} (hx : a.eval xo = enc x) (hv : a.eval vo = v)
  (hk : ∀ w', KMap enc w' r (kset l x v) → w.grownBy w' (some r) → w'.heap.size = w.heap.size → wpListIn F nF P ops Q rest (a.put o.dst undef) w') : wpListIn F nF P ops Q (o :: rest) a w := by
 refine wpListIn_want hg fun K' hK' => ?_
 obtain ⟨w', hrun, h1, h2, h3⟩ := run_update_k C hT h x v
 unfold Oper.wpIn
 refine ⟨by simp [Oper.about, hop], ?_⟩
 rw [Oper.semAt_plain F _ _ (by rw [hop]; intro c hc'; cases hc')]
 simp only [execOp, hop, hm, hx, hv]
 simp [hrun, Result.andThen]
 exact hK' _ _ (hk w' h1 h2 h3)
end
def keys8 (S : List K8) : List (K8 × Value) := S.map fun κ => (κ, Value.bool true)
def addK (S : List K8) (x : K8) : List K8 := if x ∈ S then S else S ++ [x]
theorem mem_addK {S : List K8} {x y : K8} : y ∈ addK S x ↔ y = x ∨ y ∈ S := by
 unfold addK
 split
 ·rename_i h
  constructor
  ·exact .inr
  ·rintro (rfl | h')
   ·exact h
   ·exact h'
 ·simp [or_comm]
theorem keys8_keys (S : List K8) : (keys8 S).map (·.1) = S := by
 unfold keys8
 rw [List.map_map]
 conv => rhs; rw [← List.map_id S]
 rfl
theorem keys8_len (S : List K8) : (keys8 S).length = S.length := by unfold keys8; simp
theorem kset_keys8 : ∀ (S : List K8) (x : K8), kset (keys8 S) x (.bool true) = keys8 (addK S x)
 | [], x => rfl
 | κ :: S, x => by
  have ih := kset_keys8 S x
  unfold keys8 addK at ih ⊢
  simp only [List.map_cons, kset]
  by_cases h : κ = x
  ·subst h; simp
  ·rw [if_neg h, ih]
   have h' : ¬ x = κ := fun e => h e.symm
   by_cases hm : x ∈ S
   ·simp [hm]
   ·simp [hm, h']
theorem klook_keys8 : ∀ (S : List K8) (x : K8), (klook (keys8 S) x).getD (.bool false) = .bool (decide (x ∈ S))
 | [], x => rfl
 | κ :: S, x => by
  have ih := klook_keys8 S x
  unfold keys8 at ih ⊢
  simp only [List.map_cons, klook]
  by_cases h : κ = x
  ·subst h; simp
  ·rw [if_neg h, ih]
   have h' : ¬ x = κ := fun e => h e.symm
   simp [h']
theorem keys8_nodup {w : World} {b : Nat} {S : List K8} (h : KMap enc8 w b (keys8 S)) : S.Nodup := by
 have := h.nodup encK8
 rwa [keys8_keys] at this
end Go.Proofs.YteiaeaciaglmgaaGreat
namespace Go.Proofs.YteiaeaciaglmgaaGreat
theorem pad8_ex {p : List Int} (hl : p.length ≤ 8) (hz : ∀ x ∈ p, 0 ≤ x ∧ x ≤ 1000000) : ∃ y : K8, y.1 = padL p :=
 ⟨⟨padL p, padL_len hl, fun x hx => by rcases padL_mem hx with h | h; have := hz x h; unfold I64; omega; rw [h]; unfold I64; omega⟩, rfl⟩
/-- the arrays of a list of states -/
def Shows (N : List K8) (L : List (List Int)) : Prop := ∀ y : K8, y ∈ N ↔ ∃ x ∈ L, y.1 = padL x
theorem nodup_val {N : List K8} (h : N.Nodup) : (N.map fun y => y.1).Nodup := List.pairwise_map.2 (h.imp fun {a b} hne e => hne (Subtype.ext e))
theorem shows_le {N : List K8} {L : List (List Int)} {n : Nat} (hN : N.Nodup) (hs : ∀ y ∈ N, ∃ x ∈ L, y.1 = padL x) : N.length ≤ L.length := by
 have h := nodup_lenG (l := N.map fun y => y.1) (m := L.map padL) (nodup_val hN) (fun v hv => by
  obtain ⟨y, hy, rfl⟩ := List.mem_map.1 hv
  obtain ⟨x, hx, e⟩ := hs y hy
  exact List.mem_map.2 ⟨x, hx, e.symm⟩)
 simpa using h
theorem shows_ge {N : List K8} {L : List (List Int)} {n : Nat} (hL : L.Nodup) (hlen : ∀ x ∈ L, x.length = n) (hs : ∀ x ∈ L, ∃ y ∈ N, y.1 = padL x) : L.length ≤ N.length := by
 have hn : (L.map padL).Nodup := List.pairwise_map.2 (hL.imp_of_mem fun {a b} ha hb hne e => hne (padL_inj e (by rw [hlen a ha, hlen b hb])))
 have h := nodup_lenG (l := L.map padL) (m := N.map fun y => y.1) hn (fun v hv => by
  obtain ⟨x, hx, rfl⟩ := List.mem_map.1 hv
  obtain ⟨y, hy, e⟩ := hs x hx
  exact List.mem_map.2 ⟨y, hy, e⟩)
 simpa using h
/-- what the loop over the states holds: what is left, the next states, the ones met -/
structure StP (f : Flow) (k : Nat) (Kl N M : List K8) : Prop where
 left : ∀ κ ∈ Kl, ∃ p ∈ asgTo f k, κ.1 = padL p
 nd : Kl.Nodup
 next : ∀ y : K8, y ∈ N ↔ ∃ p ∈ asgTo f k, (∀ κ ∈ Kl, κ.1 ≠ padL p) ∧ ∃ x ∈ outsL f k p, y.1 = padL x
 met : ∀ z ∈ M, ∃ p ∈ asgTo f k, (∀ κ ∈ Kl, κ.1 ≠ padL p) ∧ ∃ s : List Int, s.Perm (ofL p (lotAt f.lots k).ins) ∧ z.1 = padL (putsL (beforeI f k) s (idL (lotAt f.lots k).ins.length) p)
variable {f : Flow} {k : Nat} {N M N' M' A B : List K8} {κ : K8} {p : List Int}
theorem StP.start {S : List K8} (hS : Shows S (asgTo f k)) (hn : S.Nodup) (hex : ∀ p ∈ asgTo f k, ∃ y : K8, y.1 = padL p) : StP f k S [] [] := by
 refine ⟨fun κ hκ => (hS κ).1 hκ, hn, fun y => ⟨fun h => (by cases h), ?_⟩, fun z hz => by cases hz⟩
 rintro ⟨p, hp, hno, _⟩
 obtain ⟨y, hy⟩ := hex p hp
 exact absurd hy (hno y ((hS y).2 ⟨p, hp, hy⟩))
theorem StP.apart (h : StP f k (A ++ κ :: B) N M) (hκ : κ.1 = padL p) : ∀ κ' ∈ A ++ B, κ'.1 ≠ padL p := by
 intro κ' h' e
 have e2 : κ' = κ := Subtype.ext (e.trans hκ.symm)
 subst e2
 have := (List.perm_middle (a := κ') (l₁ := A) (l₂ := B)).nodup_iff.1 h.nd
 exact (List.nodup_cons.1 this).1 h'
theorem StP.lose (h : StP f k (A ++ κ :: B) N M) : (∀ κ' ∈ A ++ B, ∃ p ∈ asgTo f k, κ'.1 = padL p) ∧ (A ++ B).Nodup := by
 refine ⟨fun κ' h' => h.left κ' ?_, ?_⟩
 ·rcases List.mem_append.1 h' with h' | h'
  ·exact List.mem_append_left _ h'
  ·exact List.mem_append_right _ (List.mem_cons_of_mem _ h')
 ·have := (List.perm_middle (a := κ) (l₁ := A) (l₂ := B)).nodup_iff.1 h.nd
  exact (List.nodup_cons.1 this).2
theorem StP.still {p' : List Int} (hno : ∀ κ' ∈ A ++ κ :: B, κ'.1 ≠ padL p') : ∀ κ' ∈ A ++ B, κ'.1 ≠ padL p' := fun κ' h' => hno κ' (by
 rcases List.mem_append.1 h' with h' | h'
 ·exact List.mem_append_left _ h'
 ·exact List.mem_append_right _ (List.mem_cons_of_mem _ h'))
theorem StP.more {p' : List Int} (hno : ∀ κ' ∈ A ++ B, κ'.1 ≠ padL p') (hκ : κ.1 ≠ padL p') : ∀ κ' ∈ A ++ κ :: B, κ'.1 ≠ padL p' := fun κ' h' => by
 rcases List.mem_append.1 h' with h' | h'
 ·exact hno κ' (List.mem_append_left _ h')
 ·rcases List.mem_cons.1 h' with rfl | h'
  ·exact hκ
  ·exact hno κ' (List.mem_append_right _ h')
/-- a state and all that it leads to -/
theorem StP.full (h : StP f k (A ++ κ :: B) N M) (hκ : κ.1 = padL p) (hp : p ∈ asgTo f k) (hN : ∀ y : K8, y ∈ N' ↔ y ∈ N ∨ ∃ x ∈ outsL f k p, y.1 = padL x)
  (hM : ∀ z ∈ M', z ∈ M ∨ ∃ s : List Int, s.Perm (ofL p (lotAt f.lots k).ins) ∧ z.1 = padL (putsL (beforeI f k) s (idL (lotAt f.lots k).ins.length) p)) : StP f k (A ++ B) N' M' := by
 have hap := h.apart hκ
 refine ⟨h.lose.1, h.lose.2, fun y => ?_, fun z hz => ?_⟩
 ·rw [hN y, h.next y]
  constructor
  ·rintro (⟨p', h1, h2, h3⟩ | ⟨x, hx, e⟩)
   ·exact ⟨p', h1, StP.still h2, h3⟩
   ·exact ⟨p, hp, hap, x, hx, e⟩
  ·rintro ⟨p', h1, h2, h3⟩
   by_cases e : κ.1 = padL p'
   ·have : p = p' := padL_inj (hκ.symm.trans e) (by rw [asg_len k p hp, asg_len k p' h1])
    subst this
    exact .inr h3
   ·exact .inl ⟨p', h1, StP.more h2 e, h3⟩
 ·rcases hM z hz with hz | hz
  ·obtain ⟨p', h1, h2, h3⟩ := h.met z hz
   exact ⟨p', h1, StP.still h2, h3⟩
  ·exact ⟨p, hp, hap, hz⟩
/-- a state that leads to what has come already -/
theorem StP.skip (h0 : 0 ≤ f.senders) (hl : lotsB f f.lots.length = true) (hk : k < f.lots.length) (h : StP f k (A ++ κ :: B) N M) (hκ : κ.1 = padL p) (hp : p ∈ asgTo f k) (hu : (lotAt f.lots k).known = false) {z : K8} (hz : z ∈ M) {s : List Int}
  (hs : s.Perm (ofL p (lotAt f.lots k).ins)) (he : z.1 = padL (putsL (beforeI f k) s (idL (lotAt f.lots k).ins.length) p)) : StP f k (A ++ B) N M := by
 have hlk : lotsB f k = true := by
  cases h : lotsB f k with
  | true => rfl
  | false => rw [lotsB_false h (Nat.le_of_lt hk)] at hl; cases hl
 obtain ⟨p2, g1, g2, s2, g3, g4⟩ := h.met z hz
 have hlen : (putsL (beforeI f k) s (idL (lotAt f.lots k).ins.length) p).length = (putsL (beforeI f k) s2 (idL (lotAt f.lots k).ins.length) p2).length := by rw [putsL_len, putsL_len, asg_len k p hp, asg_len k p2 g1]
 have hsame := outs_same (lotsB_lot hl hk) (asg_all h0 k hlk p hp) (asg_all h0 k hlk p2 g1) hu hs g3 (padL_inj (he.symm.trans g4) hlen)
 have hN : ∀ y : K8, y ∈ N ↔ y ∈ N ∨ ∃ x ∈ outsL f k p, y.1 = padL x := fun y => by
  constructor
  ·exact .inl
  ·rintro (h' | ⟨x, hx, e⟩)
   ·exact h'
   ·exact (h.next y).2 ⟨p2, g1, g2, x, (hsame x).1 hx, e⟩
 exact h.full hκ hp hN (fun z hz => .inl hz)
theorem StP.done (h : StP f k [] N M) : Shows N (asgTo f (k + 1)) := by
 intro y
 rw [h.next y]
 constructor
 ·rintro ⟨p, hp, _, x, hx, e⟩
  obtain ⟨π, hπ, rfl⟩ := List.mem_map.1 hx
  exact ⟨_, mem_asgTo.2 ⟨p, hp, π, hπ, rfl⟩, e⟩
 ·rintro ⟨x, hx, e⟩
  obtain ⟨p, hp, π, hπ, rfl⟩ := mem_asgTo.1 hx
  exact ⟨p, hp, (fun κ hκ => by cases hκ), _, List.mem_map.2 ⟨π, hπ, rfl⟩, e⟩
theorem StP.le {Kl : List K8} (h : StP f k Kl N M) (hN : N.Nodup) : N.length ≤ (asgTo f (k + 1)).length := by
 refine shows_le (n := 0) hN fun y hy => ?_
 obtain ⟨p, hp, _, x, hx, e⟩ := (h.next y).1 hy
 obtain ⟨π, hπ, rfl⟩ := List.mem_map.1 hx
 exact ⟨_, mem_asgTo.2 ⟨p, hp, π, hπ, rfl⟩, e⟩
theorem shows_len {S : List K8} {m : Nat} (hS : Shows S (asgTo f m)) (hn : S.Nodup) (hex : ∀ p ∈ asgTo f m, ∃ y : K8, y.1 = padL p) : S.length = (asgTo f m).length := by
 refine Nat.le_antisymm (shows_le (n := 0) hn fun y hy => (hS y).1 hy) (shows_ge (n := f.senders.toNat) (srt_nodup (asg_srt m)) (fun x hx => asg_len m x hx) fun x hx => ?_)
 obtain ⟨y, hy⟩ := hex x hx
 exact ⟨y, (hS y).2 ⟨x, hx, hy⟩, hy⟩
theorem asg_vals {m : Nat} (h0 : 0 ≤ f.senders) (h8 : f.senders ≤ 8) (hl : lotsB f m = true) (hb : beforeI f m ≤ 50000) : ∀ p ∈ asgTo f m, ∃ y : K8, y.1 = padL p := by
 intro p hp
 refine pad8_ex (by rw [asg_len m p hp]; omega) fun x hx => ?_
 have := ((asg_all h0 m hl p hp).2 x).1 hx
 omega
/-- in the end: what sorted returns are the assignments, in order -/
theorem shows_sorted {S : List K8} {m n : Nat} (hn : f.senders.toNat = n) (hS : Shows S (asgTo f m)) (hS2 : S.Nodup) (hex : ∀ p ∈ asgTo f m, ∃ y : K8, y.1 = padL p) {rows : List (List Int)} (hp : rows.Perm (S.map fun κ => κ.1.take n))
  (hs : rows.Pairwise fun a b => ¬ cmpL b a < 0) : rows = asgTo f m := by
 have hmem : ∀ x, x ∈ rows ↔ x ∈ asgTo f m := by
  intro x
  rw [hp.mem_iff, List.mem_map]
  constructor
  ·rintro ⟨κ, hκ, rfl⟩
   obtain ⟨p, hp, e⟩ := (hS κ).1 hκ
   rw [e]
   have hl := asg_len m p hp
   rw [← hn, ← hl, padL_take]
   exact hp
  ·intro hx
   obtain ⟨y, hy⟩ := hex x hx
   refine ⟨y, (hS y).2 ⟨x, hx, hy⟩, ?_⟩
   rw [hy, ← hn, ← asg_len m x hx, padL_take]
 have hnd : rows.Nodup := by
  refine hp.nodup_iff.2 (List.pairwise_map.2 (hS2.imp_of_mem fun {a b} ha hb hne e => hne ?_))
  obtain ⟨p, hp, e1⟩ := (hS a).1 ha
  obtain ⟨q, hq, e2⟩ := (hS b).1 hb
  refine Subtype.ext ?_
  rw [e1, e2] at e ⊢
  have h1 := padL_take p
  have h2 := padL_take q
  rw [asg_len m p hp, hn] at h1
  rw [asg_len m q hq, hn] at h2
  rw [h1, h2] at e
  rw [e]
 refine srt_ext ?_ (asg_srt m) hmem
 refine List.Pairwise.imp_of_mem (fun {a b} ha hb hab => ?_) (hs.and hnd)
 have hla := asg_len m a ((hmem a).1 ha)
 have hlb := asg_len m b ((hmem b).1 hb)
 rcases ltL_total (show a.length = b.length by rw [hla, hlb]) hab.2 with h | h
 ·exact h
 ·exact absurd ((cmpL_lt (by rw [hla, hlb])).2 h) hab.1
end Go.Proofs.YteiaeaciaglmgaaGreat
namespace Go.Proofs.YteiaeaciaglmgaaGreat
open Go.RowKit Go.Maps
section
variable {α : Type} {enc : α → Value} {P : Program} {w : World} {T K E : TypeId} {r : Nat} {l : List (α × Value)} {ops : Array Oper} {rest : List Oper} {o : Oper} {a : Act} {Q : Exit → Act → World → Prop}
theorem wpList_insert_k [DecidableEq α] (C : KeyEnc P K enc) (hg : Region.wanted o (yielded ops a.tmps) = true) (m xo vo : Operand) (hop : o.op = Op.insert T m xo vo)
  (hT : P.underlying T = some (.map K E)) (hm : a.eval m = .map (some r)) (h : KMap enc w r l) {x : α} {v : Value} (hx : a.eval xo = enc x) (hv : a.eval vo = v)
  (hk : ∀ w', KMap enc w' r (kset l x v) → w.grownBy w' (some r) → w'.heap.size = w.heap.size → wpList P ops Q rest (a.put o.dst undef) w') : wpList P ops Q (o :: rest) a w := by
 refine wpList_wantK hg fun K' hK' => ?_
 obtain ⟨w', hrun, h1, h2, h3⟩ := run_update_k C hT h x v
 unfold Oper.wp
 simp only [execOp, hop, hm, hx, hv]
 simp [hrun, Result.andThen]
 exact hK' _ _ (hk w' h1 h2 h3)
end
theorem Row8.turned {X : Nat → Prop} {w w' : World} {b : Nat} {l : List Int} (h : Row8 w b l) (ht : Turned X w w') (hx : ¬ X b) : Row8 w' b l := ⟨(ht.block b h.lt hx).trans h.1, h.2⟩
theorem Row8.box {w : World} {b : Nat} {l : List Int} (h : Row8 w b l) : Box w b (l.map (Value.int .i64)).toArray := by
 refine ⟨h.lt, fun i => ?_⟩
 simp only [World.cell?, h.1]
 rfl
end Go.Proofs.YteiaeaciaglmgaaGreat
namespace Go.Proofs.YteiaeaciaglmgaaGreat
open Go.RowKit
attribute [local go_sem] Oper.semAt_some
theorem zeros8 : (#[.int .i64 0, .int .i64 0, .int .i64 0, .int .i64 0, .int .i64 0, .int .i64 0, .int .i64 0, .int .i64 0] : Array Value) = arrN (begL 8 0) := by
 rw [begL_zero]; rfl
theorem padL_begin (f : Flow) (h8 : f.senders.toNat ≤ 8) : begL 8 f.senders.toNat = padL (beginL f) := by
 unfold begL padL beginL; simp
/-- the first i of a list, and then nothing -/
def ofT (l : List Int) (i : Nat) : List Int := l.take i ++ List.replicate (l.length - i) 0
theorem ofT_len {l : List Int} {i : Nat} (h : i ≤ l.length) : (ofT l i).length = l.length := by unfold ofT; simp; omega
theorem ofT_zero (l : List Int) : ofT l 0 = List.replicate l.length 0 := by unfold ofT; simp
theorem ofT_all (l : List Int) : ofT l l.length = l := by unfold ofT; simp
theorem ofT_set {l : List Int} {i : Nat} (h : i < l.length) : (ofT l i).set i (nth l i) = ofT l (i + 1) := by
 unfold ofT
 have hl : (l.take i).length = i := by rw [List.length_take]; omega
 rw [List.set_append_right _ _ (by omega), hl, Nat.sub_self]
 have : l.length - i = (l.length - (i + 1)) + 1 := by omega
 rw [this, List.replicate_succ, List.set_cons_zero, List.take_succ_eq_append_getElem h, nth_lt h, List.append_assoc]
 rfl
theorem many_len {f : Flow} : ∀ {k : Nat}, manyTo f k = false → (asgTo f k).length ≤ 5040
 | 0, _ => by simp [asgTo]
 | k + 1, h => by
  simp only [manyTo, Bool.or_eq_false_iff, decide_eq_false_iff_not] at h
  omega
/-- what holds at the head of All's loop over the lots -/
structure LotRel (w : World) (f : Flow) (bs : Nat) (fx : Array Value) (k : Nat) (vm : Value) (rs : List Nat) (W : World) : Prop where
 st : ∃ (bm : Nat) (S : List K8), vm = .map (some bm) ∧ KMap enc8 W bm (keys8 S) ∧ Shows S (asgTo f k) ∧ bm ≠ bs
 many : manyTo f k = false
 spots : Cell1 W bs (.int .i64 (beforeI f k))
 box : Box W w.heap.size fx
 below : Below w.heap.size w W
 marks : MarksOk w.heap.size rs W
/-- .. of its loop over the states: in memory -/
structure StMem (wD : World) (B D bm ri : Nat) (S : List K8) (left : List (K8 × Value)) (N M : List K8) (rs : List Nat) (W : World) : Prop where
 iter : KIter enc8 W bm ri (keys8 S) left
 next : KMap enc8 W D (keys8 N)
 met : KMap enc8 W (D + 1) (keys8 M)
 cell : Cell1 W (D + 1 + 1) (.map (some D))
 below : Below D wD W
 marks : MarksOk B rs W
structure StRel (wD : World) (f : Flow) (k B D bm ri : Nat) (S : List K8) (left : List (K8 × Value)) (N M : List K8) (rs : List Nat) (W : World) : Prop where
 mem : StMem wD B D bm ri S left N M rs W
 plain : StP f k (left.map fun p => p.1) N M
 few : N.length ≤ 5040
section
variable {wD W W' : World} {B D bm ri : Nat} {S N M N' M' : List K8} {left left' : List (K8 × Value)} {rs : List Nat}
theorem StMem.ext (h : StMem wD B D bm ri S left N M rs W) (hb : Below W.heap.size W W') : StMem wD B D bm ri S left N M rs W' :=
 ⟨h.iter.ext hb, h.next.ext hb, h.met.ext hb, h.cell.ext hb, h.below.trans (hb.mono (Nat.le_of_lt h.next.lt)), h.marks.ext hb⟩
theorem KIter.obj {enc : K8 → Value} {W : World} {bm r : Nat} {l left : List (K8 × Value)} (h : KIter enc W bm r l left) : W.heap[r]? ≠ some (.deferred (some [])) := by
 obtain ⟨es, c, seen, c0, a, b, _⟩ := h
 rw [b]; simp
theorem KMap.objK {enc : K8 → Value} {W : World} {r : Nat} {l : List (K8 × Value)} (h : KMap enc W r l) : W.heap[r]? ≠ some (.deferred (some [])) := by
 obtain ⟨es, c, h1, _⟩ := h
 rw [h1]; simp
theorem StMem.pass (h : StMem wD B D bm ri S left N M rs W) (hi : KIter enc8 W' bm ri (keys8 S) left') (hg : W.grownBy W' (some ri)) (hri : ri = D + 1 + 1 + 1) : StMem wD B D bm ri S left' N M rs W' :=
 ⟨hi, h.next.grown hg (by simp; omega), h.met.grown hg (by simp; omega), h.cell.grown hg (by simp; omega), h.below.grown hg (Nat.le_of_lt h.next.lt) (fun j hj => by cases hj; omega), h.marks.grown hg h.iter.obj⟩
theorem StMem.meet (h : StMem wD B D bm ri S left N M rs W) (hm : KMap enc8 W' (D + 1) (keys8 M')) (hg : W.grownBy W' (some (D + 1))) (hri : ri = D + 1 + 1 + 1) (hbm : bm < D) : StMem wD B D bm ri S left N M' rs W' :=
 ⟨h.iter.kept hg (by simp; omega) (by simp; omega), h.next.grown hg (by simp), hm, h.cell.grown hg (by simp), h.below.grown hg (Nat.le_of_lt h.next.lt) (fun j hj => by cases hj; omega), h.marks.grown hg h.met.objK⟩
theorem StMem.more (h : StMem wD B D bm ri S left N M rs W) (hm : KMap enc8 W' D (keys8 N')) (ht : Turned (fun k => k = D ∨ W.heap.size ≤ k) W W') (hri : ri = D + 1 + 1 + 1) (hbm : bm < D) : StMem wD B D bm ri S left N' M rs W' := by
 have h1 := h.iter.lt
 have h2 := h.met.lt
 have h3 := h.cell.lt
 refine ⟨h.iter.turned ht (by omega) (by omega), hm, h.met.turned ht (by omega), h.cell.turned ht (by omega), h.below.trans (ht.below (Nat.le_of_lt h.next.lt) (fun k hk hx => ?_)), h.marks.turned ht (fun r hr hx => ?_)⟩
 ·have := h.next.lt; omega
 ·rcases hx with rfl | hx
  ·exact h.next.objK (h.marks.at_ _ hr).2
  ·have := h.marks.lt r hr; omega
end
set_option maxHeartbeats 16000000 in
set_option maxRecDepth 100000 in
/-- count.All -/
theorem all27_any (B : Nat) (w : World) (vs vl : Value) (f : Flow) (hf : IsFlow B w vs vl f) (hB : B ≤ w.heap.size) :
  Calls Tryz.prog 19 #[.agg #[vs, vl]] w fun e w' => ∃ v, e = .returned (.tuple #[v, .int .i64 (allE f)]) ∧ OwnMat w.heap.size w' v (allR f) ∧ Below w.heap.size w w' := by
 have HF := Lib.hid hf
 obtain ⟨rfl, ⟨hs1, hs2⟩, hl⟩ := hf
 obtain ⟨b, off, cap, ⟨a, rfl, hcap, hmax, ha⟩, hlen, hc⟩ := hl
 have HC := Lib.hid hc
 have HA := Lib.hid ha
 clear hc ha
 have HCK := Lib.hid (fun o => fcheck_any B (w.alloc o) _ _ f (HF.out.below (box_below hB o) (Nat.le_refl _)) (by simp; omega))
 have HER : Hid (allE f = if checkE f ≠ 0 then checkE f else if 8 < f.senders then 2 else if manyTo f f.lots.length then 2 else 0) := Lib.hid rfl
 have HRR : Hid (allR f = if allE f = 0 then asgL f else []) := Lib.hid rfl
 by_cases h1 : checkE f = 0
 ·have h1' : (checkE f != 0) = false := by simpa using h1
  have H1 := Lib.hid h1
  by_cases h2 : 8 < f.senders
  ·have h2' : decide (8 < f.senders) = true := decide_eq_true h2
   have HE : Hid (allE f = 2) := Lib.hid (by rw [HER.out, if_neg (by simp [h1]), if_pos h2])
   have HR : Hid (allR f = []) := Lib.hid (by rw [HRR.out, HE.out]; rfl)
   clear h1
   go_enter Tryz.func19, Tryz.ntmps19
   go_wp2_with (go_at_call 39; refine (HCK.out _).mono ?_; rintro e w5 ⟨rfl, hb5⟩; have HB5 := Lib.hid hb5; have HX5 := Lib.hid ((Box.new w #[.int .i64 f.senders, .slice a f.lots.length cap] 24).ext hb5); obtain ⟨z5, r5⟩ := HX5.out; clear hb5)
   go_ret2
   exact ⟨.slice none 0 0, by rw [HE.out]; rfl, by rw [HR.out]; exact OwnMat.nil _ _, (box_below' w _).trans (HB5.out.mono (by simp))⟩
  ·have h2' : decide (8 < f.senders) = false := decide_eq_false h2
   have h8 : f.senders ≤ 8 := by omega
   obtain ⟨h0, _, h2000, h50, hlots⟩ := checkE_ok h1
   have HE1 : Hid (allE f = if manyTo f f.lots.length then 2 else 0) := Lib.hid (by rw [HER.out, if_neg (by simp [h1]), if_neg h2])
   have HLT := Lib.hid hlots
   have H50 := Lib.hid h50
   obtain ⟨n, hn⟩ : ∃ n : Nat, f.senders = (n : Int) := ⟨f.senders.toNat, by omega⟩
   have hn8 : n ≤ 8 := by omega
   have htn : f.senders.toNat = n := by omega
   have HTN := Lib.hid htn
   have HN := Lib.hid hn
   clear h1 hlots h50 htn
   rw [hn] at h2' HCK HF ⊢
   clear hn
   have hmm := @run_makeMap Tryz.prog
   have hmf := @run_makeFunc_any Tryz.prog
   refine (callsIn_wide (n := 11)).1 ?_
   refine callsIn_of_wp_marks Tryz.func19 rfl trivial ?_ rfl
   simp only [Tryz.ntmps19, List.size_toArray, List.length_cons, List.length_nil, Nat.reduceAdd, Nat.reduceSub, Array.replicate_succ, Array.replicate_zero, List.push_toArray, List.append_toArray, List.nil_append, List.cons_append]
   refine wpIn_wide.2 ?_
   go_wp2_with (go_at_call 39; refine (HCK.out _).mono ?_; rintro e w5 ⟨rfl, hb5⟩; have HB5 := Lib.hid ((box_below' w _).trans (hb5.mono (by simp))); have HX5 := Lib.hid ((Box.new w #[.int .i64 (n : Int), .slice a f.lots.length cap] 24).ext hb5); obtain ⟨z5, r5⟩ := HX5.out; clear hb5)
   rw [zeros8]
   obtain ⟨w6, hw6⟩ : ∃ W, w5.alloc (.cells (arrN (begL 8 0)) 78) = W := ⟨_, rfl⟩
   rw [hw6]
   have HR6 : Hid (Row8 w6 w5.heap.size (begL 8 0)) := Lib.hid (by rw [← hw6]; exact Row8.new w5 (begL_len (by omega)))
   have HB6 : Hid (Below w5.heap.size w5 w6) := Lib.hid (by rw [← hw6]; exact box_below' _ _)
   have HZ5 : Hid (w.heap.size < w5.heap.size) := Lib.hid z5
   clear hw6 z5 r5
   go_loopw [33] (fun vi wr => ∃ s : Nat, s ≤ n ∧ vi = .int .i64 s ∧ Row8 wr w5.heap.size (begL 8 s) ∧ Below w5.heap.size w5 wr) (fun vi _ => n - (intOf vi).toNat)
   case atStart => exact ⟨0, by omega, rfl, HR6.out, HB6.out⟩
   case round =>
    obtain ⟨s, hs, rfl, hrow, hbl⟩ := hrel
    have HR7 := Lib.hid hrow
    have HB7 := Lib.hid hbl
    have HX7 := Lib.hid (HX5.out.ext hbl)
    obtain ⟨z7, r7⟩ := HX7.out
    clear hrow hbl HR6 HB6
    by_cases hlt : s < n
    ·have hlt' : decide ((s : Int) < n) = true := decide_eq_true (by omega)
     have hs8 : s < 8 := by omega
     have c1 := HR7.out.cell (j := s) hs8
     have c2 := HR7.out.free (j := s)
     have HST := Lib.hid (HR7.out.set s (s : Int))
     rw [begL_set (by omega)] at HST
     have hs9 : (s : Int) < 8 := by omega
     go_wp2
     go_roundw
     case rel => exact ⟨s + 1, by omega, by go_num, HST.out, HB7.out.setCell (p := ⟨w5.heap.size, s, none⟩) (Nat.le_refl _) _⟩
     case measure => simp [intOf]; omega
    ·have hlt' : decide ((s : Int) < n) = false := decide_eq_false (by omega)
     obtain rfl : s = n := by omega
     have HPB : Hid (begL 8 s = padL (beginL f)) := Lib.hid (by rw [← HTN.out]; exact padL_begin f (by rw [HTN.out]; omega))
     rw [HPB.out] at HR7
     have HBL := Lib.hid (asg_len (f := f) 0 (beginL f) (by simp [asgTo]))
     obtain ⟨κ0, hκ0⟩ : ∃ y : K8, y.1 = padL (beginL f) := asg_vals (m := 0) h0 h8 rfl (by have := H50.out; have h1 := beforeI_mono (f := f) (show 0 ≤ f.lots.length by omega); omega) _ (by simp [asgTo])
     have HK0 := Lib.hid hκ0
     have HR7a := Lib.hid (HR7.out.ext (box_below' wr (.map #[] 0)))
     clear hκ0
     go_wp2_with (first
      | ((with_reducible refine wpList_load8 (.tmp 4) HR7a.out ?_ ?_ ?_ ?_); rotate_left; rfl; rfl; rfl; rw [← HK0.out])
      | (refine wpList_insert_k encK8 rfl (.tmp 40) (.tmp 41) (.const (.bool true)) rfl Tryz.underlying79 rfl (KMap.made wr) (x := κ0) (v := .bool true) rfl rfl ?_; intro w8 hm8 hg8 hz8; have HM8 := Lib.hid hm8; have HB8 : Hid (Below wr.heap.size wr w8) := Lib.hid ((box_below' wr (.map #[] 0)).grown hg8 (by simp) (fun j hj => by cases hj; exact Nat.le_refl _)); have HZ8 := Lib.hid hz8; have HX8 := Lib.hid (HX7.out.ext HB8.out); obtain ⟨z8, r8⟩ := HX8.out; clear hm8 hg8 hz8 z7 r7))
     obtain ⟨w9, hw9⟩ : ∃ W, w8.alloc (.cells #[.int .i64 (s : Int)] 3) = W := ⟨_, rfl⟩
     obtain ⟨bs, hbs⟩ : ∃ x, w8.heap.size = x := ⟨_, rfl⟩
     obtain ⟨bm0, hbm0⟩ : ∃ x, wr.heap.size = x := ⟨_, rfl⟩
     have HC9 : Hid (Cell1 w9 bs (.int .i64 (s : Int))) := Lib.hid (by rw [← hw9, ← hbs]; exact Cell1.new w8 _ _)
     have HB9 : Hid (Below w8.heap.size w8 w9) := Lib.hid (by rw [← hw9]; exact box_below' _ _)
     have HM9 : Hid (KMap enc8 w9 bm0 (keys8 [κ0])) := Lib.hid (by rw [← hbm0]; exact HM8.out.ext HB9.out)
     have HX9 := Lib.hid (HX8.out.ext HB9.out)
     have HW9 : Hid (Below w.heap.size w w9) := Lib.hid (((HB5.out.trans (HB7.out.mono HB5.out.size)).trans (HB8.out.mono (Nat.le_trans HB5.out.size HB7.out.size))).trans (HB9.out.mono (Nat.le_trans (Nat.le_trans HB5.out.size HB7.out.size) HB8.out.size)))
     have hne : bm0 ≠ bs := by have := HM8.out.lt; rw [hbm0, hbs] at this; omega
     have HS0 : Hid (Shows [κ0] (asgTo f 0)) := Lib.hid (fun y => by
      simp only [List.mem_singleton, asgTo, exists_eq_left]
      constructor
      ·rintro rfl; exact HK0.out
      ·intro h; exact Subtype.ext (h.trans HK0.out.symm))
     have hbI : beforeI f 0 = (s : Int) := HN.out
     have HLR : Hid (LotRel w f bs #[.int .i64 (s : Int), .slice a f.lots.length cap] 0 (.map (some bm0)) [] w9) := Lib.hid ⟨⟨bm0, [κ0], rfl, HM9.out, HS0.out, hne⟩, rfl, by rw [hbI]; exact HC9.out, HX9.out, HW9.out, MarksOk.nil _ _⟩
     have HBS : Hid (w.heap.size < bs) := Lib.hid (by rw [← hbs]; exact z8)
     rw [hw9, hbs, hbm0]
     generalize hv41 : Value.agg (arrN κ0.1) = v41
     clear hv41
     clear hw9 hbs hbm0 z8 r8 hne hbI HC9 HB9 HM9 HX9 HW9 HS0 HB8 HM8 HZ8 HX8 HR7a HB7 HR7 HX7 HX5 HZ5 HB5
     refine wp_loop (fun a' W => ∃ (rs : List Nat) (u2 u3 u6 u9 u10 u11 u12 u13 u14 u15 u16 u17 u18 u19 u20 u21 u22 u48 u49 u50 u51 u52 u53 u54 u55 u56 u57 u58 u59 u60 u61 u62 u63 u64 u65 u66 u67 u68 u69 u70 u71 u72 u73 u74 u75 u76 u77 u78 u79 u80 u81 u82 u83 u84 u85 u86 u87 u88 u89 u90 u91 u92 u93 u94 u95 u96 u97 u98 u99 u100 u101 u102 u103 u104 u105 u106 u107 u108 u109 u110 u111 u112 u113 u114 u115 u116 u117 u118 u119 u120 u121 u122 u123 u124 u125 u126 u127 u128 u129 u130 u131 u132 u133 u134 u135 u136 : Value), (∃ k : Nat, k ≤ f.lots.length ∧ u48 = .int .i64 k ∧ LotRel w f bs #[.int .i64 (s : Int), .slice a f.lots.length cap] k u6 rs W) ∧ a' = { tmps := #[.agg #[.int .i64 (s : Int), .slice a f.lots.length cap], .pointer (some ⟨w.heap.size, 0, none⟩), u2, u3, .pointer (some ⟨w5.heap.size, 0, none⟩), u5, u6, .pointer (some ⟨bs, 0, none⟩), undef, u9, u10, u11, u12, u13, u14, u15, u16, u17, u18, u19, u20, u21, u22, .agg #[.int .i64 (s : Int), .slice a f.lots.length cap], .int .i64 (checkE f), .int .i64 (checkE f), .bool false, undef, .pointer (some ⟨w.heap.size, 0, none⟩), .int .i64 (s : Int), .bool false, .pointer (some ⟨w.heap.size, 0, none⟩), .int .i64 (s : Int), .int .i64 (s : Int), .bool false, u35, u36, u37, u38, u39, .map (some bm0), v41, .map (some bm0), .pointer (some ⟨w.heap.size, 0, none⟩), .int .i64 (s : Int), .pointer (some ⟨w.heap.size, 1, none⟩), .slice a f.lots.length cap, .int .i64 (f.lots.length : Int), u48, u49, u50, u51, u52, u53, u54, u55, u56, u57, u58, u59, u60, u61, u62, u63, u64, u65, u66, u67, u68, u69, u70, u71, u72, u73, u74, u75, u76, u77, u78, u79, u80, u81, u82, u83, u84, u85, u86, u87, u88, u89, u90, u91, u92, u93, u94, u95, u96, u97, u98, u99, u100, u101, u102, u103, u104, u105, u106, u107, u108, u109, u110, u111, u112, u113, u114, u115, u116, u117, u118, u119, u120, u121, u122, u123, u124, u125, u126, u127, u128, u129, u130, u131, u132, u133, u134, u135, u136, undef, undef, undef], defers := marksOf rs }) (fun a' _ => f.lots.length - (intOf (a'.tmps.getD 48 undef)).toNat) ?_ ?_
     focus
      refine ⟨[], ?_⟩
      repeat apply Exists.intro
      refine ⟨?_, rfl⟩
      exact ⟨0, by omega, rfl, HLR.out⟩
     intro a' wB hinv
     obtain ⟨rs, hinv⟩ := hinv
     obtain ⟨u2, hinv⟩ := hinv
     obtain ⟨u3, hinv⟩ := hinv
     obtain ⟨u6, hinv⟩ := hinv
     obtain ⟨u9, hinv⟩ := hinv
     obtain ⟨u10, hinv⟩ := hinv
     obtain ⟨u11, hinv⟩ := hinv
     obtain ⟨u12, hinv⟩ := hinv
     obtain ⟨u13, hinv⟩ := hinv
     obtain ⟨u14, hinv⟩ := hinv
     obtain ⟨u15, hinv⟩ := hinv
     obtain ⟨u16, hinv⟩ := hinv
     obtain ⟨u17, hinv⟩ := hinv
     obtain ⟨u18, hinv⟩ := hinv
     obtain ⟨u19, hinv⟩ := hinv
     obtain ⟨u20, hinv⟩ := hinv
     obtain ⟨u21, hinv⟩ := hinv
     obtain ⟨u22, hinv⟩ := hinv
     obtain ⟨u48, hinv⟩ := hinv
     obtain ⟨u49, hinv⟩ := hinv
     obtain ⟨u50, hinv⟩ := hinv
     obtain ⟨u51, hinv⟩ := hinv
     obtain ⟨u52, hinv⟩ := hinv
     obtain ⟨u53, hinv⟩ := hinv
     obtain ⟨u54, hinv⟩ := hinv
     obtain ⟨u55, hinv⟩ := hinv
     obtain ⟨u56, hinv⟩ := hinv
     obtain ⟨u57, hinv⟩ := hinv
     obtain ⟨u58, hinv⟩ := hinv
     obtain ⟨u59, hinv⟩ := hinv
     obtain ⟨u60, hinv⟩ := hinv
     obtain ⟨u61, hinv⟩ := hinv
     obtain ⟨u62, hinv⟩ := hinv
     obtain ⟨u63, hinv⟩ := hinv
     obtain ⟨u64, hinv⟩ := hinv
     obtain ⟨u65, hinv⟩ := hinv
     obtain ⟨u66, hinv⟩ := hinv
     obtain ⟨u67, hinv⟩ := hinv
     obtain ⟨u68, hinv⟩ := hinv
     obtain ⟨u69, hinv⟩ := hinv
     obtain ⟨u70, hinv⟩ := hinv
     obtain ⟨u71, hinv⟩ := hinv
     obtain ⟨u72, hinv⟩ := hinv
     obtain ⟨u73, hinv⟩ := hinv
     obtain ⟨u74, hinv⟩ := hinv
     obtain ⟨u75, hinv⟩ := hinv
     obtain ⟨u76, hinv⟩ := hinv
     obtain ⟨u77, hinv⟩ := hinv
     obtain ⟨u78, hinv⟩ := hinv
     obtain ⟨u79, hinv⟩ := hinv
     obtain ⟨u80, hinv⟩ := hinv
     obtain ⟨u81, hinv⟩ := hinv
     obtain ⟨u82, hinv⟩ := hinv
     obtain ⟨u83, hinv⟩ := hinv
     obtain ⟨u84, hinv⟩ := hinv
     obtain ⟨u85, hinv⟩ := hinv
     obtain ⟨u86, hinv⟩ := hinv
     obtain ⟨u87, hinv⟩ := hinv
     obtain ⟨u88, hinv⟩ := hinv
     obtain ⟨u89, hinv⟩ := hinv
     obtain ⟨u90, hinv⟩ := hinv
     obtain ⟨u91, hinv⟩ := hinv
     obtain ⟨u92, hinv⟩ := hinv
     obtain ⟨u93, hinv⟩ := hinv
     obtain ⟨u94, hinv⟩ := hinv
     obtain ⟨u95, hinv⟩ := hinv
     obtain ⟨u96, hinv⟩ := hinv
     obtain ⟨u97, hinv⟩ := hinv
     obtain ⟨u98, hinv⟩ := hinv
     obtain ⟨u99, hinv⟩ := hinv
     obtain ⟨u100, hinv⟩ := hinv
     obtain ⟨u101, hinv⟩ := hinv
     obtain ⟨u102, hinv⟩ := hinv
     obtain ⟨u103, hinv⟩ := hinv
     obtain ⟨u104, hinv⟩ := hinv
     obtain ⟨u105, hinv⟩ := hinv
     obtain ⟨u106, hinv⟩ := hinv
     obtain ⟨u107, hinv⟩ := hinv
     obtain ⟨u108, hinv⟩ := hinv
     obtain ⟨u109, hinv⟩ := hinv
     obtain ⟨u110, hinv⟩ := hinv
     obtain ⟨u111, hinv⟩ := hinv
     obtain ⟨u112, hinv⟩ := hinv
     obtain ⟨u113, hinv⟩ := hinv
     obtain ⟨u114, hinv⟩ := hinv
     obtain ⟨u115, hinv⟩ := hinv
     obtain ⟨u116, hinv⟩ := hinv
     obtain ⟨u117, hinv⟩ := hinv
     obtain ⟨u118, hinv⟩ := hinv
     obtain ⟨u119, hinv⟩ := hinv
     obtain ⟨u120, hinv⟩ := hinv
     obtain ⟨u121, hinv⟩ := hinv
     obtain ⟨u122, hinv⟩ := hinv
     obtain ⟨u123, hinv⟩ := hinv
     obtain ⟨u124, hinv⟩ := hinv
     obtain ⟨u125, hinv⟩ := hinv
     obtain ⟨u126, hinv⟩ := hinv
     obtain ⟨u127, hinv⟩ := hinv
     obtain ⟨u128, hinv⟩ := hinv
     obtain ⟨u129, hinv⟩ := hinv
     obtain ⟨u130, hinv⟩ := hinv
     obtain ⟨u131, hinv⟩ := hinv
     obtain ⟨u132, hinv⟩ := hinv
     obtain ⟨u133, hinv⟩ := hinv
     obtain ⟨u134, hinv⟩ := hinv
     obtain ⟨u135, hinv⟩ := hinv
     obtain ⟨u136, hinv⟩ := hinv
     obtain ⟨⟨k, hk, hu48, hrel⟩, ha'⟩ := hinv
     subst ha'
     subst hu48
     try dsimp only
     obtain ⟨⟨bm, S, rfl, hkm, hsh, hnb⟩, hmany, hspots, hbox, hbel, hmarks⟩ := hrel
     have HKM := Lib.hid hkm
     have HSH := Lib.hid hsh
     have HMY := Lib.hid hmany
     have HSP := Lib.hid hspots
     have HBX := Lib.hid hbox
     have HBB := Lib.hid hbel
     have HMK := Lib.hid hmarks
     obtain ⟨zx, rx⟩ := hbox
     clear HLR hkm hsh hmany hspots hbel hmarks
     by_cases hlt : k < f.lots.length
     ·have hlt' : decide ((k : Int) < f.lots.length) = true := decide_eq_true (by omega)
      obtain rfl : a = some ⟨b, off, none⟩ := by rcases HA.out with h | h; exact h; omega
      obtain ⟨vi, vk, vp, ⟨hb, c1⟩, ⟨_, c2⟩, ⟨_, c3⟩, hli, rfl, hlp⟩ := HC.out k hlt
      have hbw : b < w.heap.size := by omega
      have d1 := (HBB.out.cell (p := ⟨b, off + k * 3, none⟩) hbw).trans c1
      have d2 := (HBB.out.cell (p := ⟨b, off + k * 3 + 1, none⟩) hbw).trans c2
      have d3 := (HBB.out.cell (p := ⟨b, off + k * 3 + 2, none⟩) hbw).trans c3
      obtain ⟨ai, ci, rfl⟩ := hli.form
      obtain ⟨ap, cp, rfl⟩ := hlp.form
      have HLI := Lib.hid hli
      have HLP := Lib.hid hlp
      have hlotk := lotsB_lot HLT.out hlt
      have HLOT := Lib.hid hlotk
      have HLK : Hid (lotsB f k = true) := Lib.hid (by
       cases h : lotsB f k with
       | true => rfl
       | false => have := lotsB_false h (show k ≤ f.lots.length by omega); rw [HLT.out] at this; cases this)
      have HLK1 : Hid (lotsB f (k + 1) = true) := Lib.hid (by
       cases h : lotsB f (k + 1) with
       | true => rfl
       | false => have := lotsB_false h (show k + 1 ≤ f.lots.length by omega); rw [HLT.out] at this; cases this)
      obtain ⟨m, hm⟩ : ∃ m, (lotAt f.lots k).ins.length = m := ⟨_, rfl⟩
      have hm8 : m ≤ 8 := by have := ins_few h0 HLT.out hlt; omega
      have HM := Lib.hid hm
      rw [hm] at d1
      obtain ⟨kn, hkn⟩ : ∃ x, (lotAt f.lots k).known = x := ⟨_, rfl⟩
      have HKN := Lib.hid hkn
      rw [hkn] at d2
      obtain ⟨D0, hD0⟩ : ∃ x, wB.heap.size = x := ⟨_, rfl⟩
      clear hli hlp c1 c2 c3 hlotk hm hkn
      go_upto_region 18 with fail
      have hzB : D0 < D0 + 1 := by omega
      obtain ⟨wD, hwD⟩ : ∃ W, wB.alloc (.cells #[.slice ai m ci, .bool kn, .slice ap (lotAt f.lots k).perm.length cp] 64) = W := ⟨_, rfl⟩
      obtain ⟨D, hD⟩ : ∃ x, D0 + 1 = x := ⟨_, rfl⟩
      have hDs : wD.heap.size = D := by rw [← hwD, ← hD, ← hD0]; simp
      have HLB : Hid (Box wD D0 #[.slice ai m ci, .bool kn, .slice ap (lotAt f.lots k).perm.length cp]) := Lib.hid (by rw [← hwD, ← hD0]; exact Box.new wB _ _)
      have HBD : Hid (Below D0 wB wD) := Lib.hid (by rw [← hwD, ← hD0]; exact box_below' _ _)
      rw [hwD, hD]
      obtain ⟨wT, hwT⟩ : ∃ W, ((wD.alloc (.map #[] 0)).alloc (.map #[] 0)).alloc (.cells #[.map (some D)] 79) = W := ⟨_, rfl⟩
      have HNX : Hid (KMap enc8 wT D (keys8 [])) := Lib.hid (by rw [← hwT, ← hDs]; exact ((KMap.made wD).alloc _).alloc _)
      have HMT : Hid (KMap enc8 wT (D + 1) (keys8 [])) := Lib.hid (by
       rw [← hwT]
       have h1 := (KMap.made (enc := enc8) (wD.alloc (.map #[] 0))).alloc (.cells #[.map (some D)] 79)
       rw [World.size_alloc, hDs] at h1
       exact h1)
      have HCL : Hid (Cell1 wT (D + 1 + 1) (.map (some D))) := Lib.hid (by
       rw [← hwT]
       have h1 := Cell1.new ((wD.alloc (.map #[] 0)).alloc (.map #[] 0)) (.map (some D)) 79
       rw [World.size_alloc, World.size_alloc, hDs] at h1
       exact h1)
      have HBT : Hid (Below D wD wT) := Lib.hid (by
       rw [← hwT, ← hDs]
       exact (((Below.refl _ wD).alloc (Nat.le_refl _) _).alloc (by simp) _).alloc (by simp; omega) _)
      have HRI0 : Hid (wT.heap.size = D + 1 + 1 + 1) := Lib.hid (by rw [← hwT]; simp [hDs])
      rw [hwT]
      have HWD : Hid (Below w.heap.size w wD) := Lib.hid (HBB.out.trans (HBD.out.mono (by rw [← hD0]; exact HBB.out.size)))
      have hbmD : bm < D0 := by rw [← hD0]; exact HKM.out.lt
      have hbsD : bs < D0 := by rw [← hD0]; exact HSP.out.lt
      have hwDs : w.heap.size ≤ D0 := by rw [← hD0]; exact HBB.out.size
      have HKMT : Hid (KMap enc8 wT bm (keys8 S)) := Lib.hid ((HKM.out.below HBD.out hbmD).below HBT.out (by omega))
      have HSPD : Hid (Cell1 wD bs (.int .i64 (beforeI f k))) := Lib.hid (HSP.out.below HBD.out hbsD)
      have HBXD := Lib.hid (HBX.out.below HBD.out (by have := HBX.out.1; omega))
      have HMKT : Hid (MarksOk w.heap.size rs wT) := Lib.hid ((HMK.out.ext (by rw [hD0]; exact HBD.out)).ext (by rw [hDs]; exact HBT.out))
      have HSN : Hid S.Nodup := Lib.hid (keys8_nodup HKM.out)
      clear hwD hwT hzB d1 d2 d3 HBD HKM HSP HMK
      go_wp2_with (at_range; refine wpList_range_k rfl (.tmp 54) rfl Tryz.underlying79 rfl HKMT.out ?_; intro w9 hit9 hb9 hz9; have HIT9 := Lib.hid hit9; have HB9 := Lib.hid hb9; clear hit9 hb9 hz9)
      obtain ⟨ri, hri⟩ : ∃ x, wT.heap.size = x := ⟨_, rfl⟩
      rw [hri] at HIT9 HB9 ⊢
      have hriD : ri = D + 1 + 1 + 1 := by have := HRI0.out; omega
      have HRI := Lib.hid hriD
      clear hriD
      have HSR : Hid (StRel wD f k w.heap.size D bm ri S (keys8 S) [] [] rs w9) := Lib.hid ⟨⟨HIT9.out, HNX.out.ext (by rw [hri]; exact HB9.out), HMT.out.ext (by rw [hri]; exact HB9.out), HCL.out.ext (by rw [hri]; exact HB9.out), HBT.out.trans (HB9.out.mono (by have := HRI0.out; omega)), HMKT.out.ext (by rw [hri]; exact HB9.out)⟩, by
        have h1 : (keys8 S).map (fun p => p.1) = S := keys8_keys S
        rw [h1]
        exact StP.start HSH.out HSN.out (asg_vals h0 h8 HLK.out (by have h1 := beforeI_mono (f := f) (show k ≤ f.lots.length by omega); have := H50.out; omega)), by simp⟩
      clear HRI0 hri HIT9 HB9 HNX HMT HCL HBT HKMT HMKT
      refine wp_loop (fun a' W => ∃ (rs : List Nat) (u2 u3 u12 u13 u14 u15 u16 u17 u18 u19 u20 u21 u22 u56 u57 u58 u59 u60 u61 u62 u63 u64 u65 u66 u67 u68 u69 u70 u71 u72 u73 u74 u75 u76 u77 u78 u79 u80 u81 u82 u83 u84 u85 u86 u87 u88 u89 u90 u91 u92 u93 u94 u95 u96 u97 u98 u99 u100 u101 u102 u103 u104 u105 u106 u107 u108 u109 u110 u111 u112 u113 u114 u115 u116 u117 u118 u119 u120 u121 u122 u123 u124 u125 u126 u127 u128 u129 : Value), (∃ left N M, StRel wD f k w.heap.size D bm ri S left N M rs W) ∧ a' = { tmps := #[.agg #[.int .i64 (s : Int), .slice (some ⟨b, off, none⟩) f.lots.length cap], .pointer (some ⟨w.heap.size, 0, none⟩), u2, u3, .pointer (some ⟨w5.heap.size, 0, none⟩), u5, .map (some bm), .pointer (some ⟨bs, 0, none⟩), undef, .pointer (some ⟨D0, 0, none⟩), .pointer (some ⟨D + 1 + 1, 0, none⟩), .map (some (D + 1)), u12, u13, u14, u15, u16, u17, u18, u19, u20, u21, u22, .agg #[.int .i64 (s : Int), .slice (some ⟨b, off, none⟩) f.lots.length cap], .int .i64 (checkE f), .int .i64 (checkE f), .bool false, undef, .pointer (some ⟨w.heap.size, 0, none⟩), .int .i64 (s : Int), .bool false, .pointer (some ⟨w.heap.size, 0, none⟩), .int .i64 (s : Int), .int .i64 (s : Int), .bool false, u35, u36, u37, u38, u39, .map (some bm0), v41, .map (some bm0), .pointer (some ⟨w.heap.size, 0, none⟩), .int .i64 (s : Int), .pointer (some ⟨w.heap.size, 1, none⟩), .slice (some ⟨b, off, none⟩) f.lots.length cap, .int .i64 (f.lots.length : Int), .int .i64 (k : Int), .bool true, .pointer (some ⟨b, off + k * 3, none⟩), .agg #[.slice ai m ci, .bool kn, .slice ap (lotAt f.lots k).perm.length cp], .map (some D), .map (some (D + 1)), .map (some bm), .pointer (some ⟨ri, 0, none⟩), u56, u57, u58, u59, u60, u61, u62, u63, u64, u65, u66, u67, u68, u69, u70, u71, u72, u73, u74, u75, u76, u77, u78, u79, u80, u81, u82, u83, u84, u85, u86, u87, u88, u89, u90, u91, u92, u93, u94, u95, u96, u97, u98, u99, u100, u101, u102, u103, u104, u105, u106, u107, u108, u109, u110, u111, u112, u113, u114, u115, u116, u117, u118, u119, u120, u121, u122, u123, u124, u125, u126, u127, u128, u129, u130, u131, u132, u133, u134, u135, u136, undef, undef, undef], defers := marksOf rs }) (fun _ W => iterLeft W bm ri) ?_ ?_
      focus
       refine ⟨rs, ?_⟩
       repeat apply Exists.intro
       refine ⟨?_, rfl⟩
       exact ⟨_, _, _, HSR.out⟩
      intro a' wC hinv
      clear HSR
      obtain ⟨rs2, hinv⟩ := hinv
      obtain ⟨u2, hinv⟩ := hinv
      obtain ⟨u3, hinv⟩ := hinv
      obtain ⟨u12, hinv⟩ := hinv
      obtain ⟨u13, hinv⟩ := hinv
      obtain ⟨u14, hinv⟩ := hinv
      obtain ⟨u15, hinv⟩ := hinv
      obtain ⟨u16, hinv⟩ := hinv
      obtain ⟨u17, hinv⟩ := hinv
      obtain ⟨u18, hinv⟩ := hinv
      obtain ⟨u19, hinv⟩ := hinv
      obtain ⟨u20, hinv⟩ := hinv
      obtain ⟨u21, hinv⟩ := hinv
      obtain ⟨u22, hinv⟩ := hinv
      obtain ⟨u56, hinv⟩ := hinv
      obtain ⟨u57, hinv⟩ := hinv
      obtain ⟨u58, hinv⟩ := hinv
      obtain ⟨u59, hinv⟩ := hinv
      obtain ⟨u60, hinv⟩ := hinv
      obtain ⟨u61, hinv⟩ := hinv
      obtain ⟨u62, hinv⟩ := hinv
      obtain ⟨u63, hinv⟩ := hinv
      obtain ⟨u64, hinv⟩ := hinv
      obtain ⟨u65, hinv⟩ := hinv
      obtain ⟨u66, hinv⟩ := hinv
      obtain ⟨u67, hinv⟩ := hinv
      obtain ⟨u68, hinv⟩ := hinv
      obtain ⟨u69, hinv⟩ := hinv
      obtain ⟨u70, hinv⟩ := hinv
      obtain ⟨u71, hinv⟩ := hinv
      obtain ⟨u72, hinv⟩ := hinv
      obtain ⟨u73, hinv⟩ := hinv
      obtain ⟨u74, hinv⟩ := hinv
      obtain ⟨u75, hinv⟩ := hinv
      obtain ⟨u76, hinv⟩ := hinv
      obtain ⟨u77, hinv⟩ := hinv
      obtain ⟨u78, hinv⟩ := hinv
      obtain ⟨u79, hinv⟩ := hinv
      obtain ⟨u80, hinv⟩ := hinv
      obtain ⟨u81, hinv⟩ := hinv
      obtain ⟨u82, hinv⟩ := hinv
      obtain ⟨u83, hinv⟩ := hinv
      obtain ⟨u84, hinv⟩ := hinv
      obtain ⟨u85, hinv⟩ := hinv
      obtain ⟨u86, hinv⟩ := hinv
      obtain ⟨u87, hinv⟩ := hinv
      obtain ⟨u88, hinv⟩ := hinv
      obtain ⟨u89, hinv⟩ := hinv
      obtain ⟨u90, hinv⟩ := hinv
      obtain ⟨u91, hinv⟩ := hinv
      obtain ⟨u92, hinv⟩ := hinv
      obtain ⟨u93, hinv⟩ := hinv
      obtain ⟨u94, hinv⟩ := hinv
      obtain ⟨u95, hinv⟩ := hinv
      obtain ⟨u96, hinv⟩ := hinv
      obtain ⟨u97, hinv⟩ := hinv
      obtain ⟨u98, hinv⟩ := hinv
      obtain ⟨u99, hinv⟩ := hinv
      obtain ⟨u100, hinv⟩ := hinv
      obtain ⟨u101, hinv⟩ := hinv
      obtain ⟨u102, hinv⟩ := hinv
      obtain ⟨u103, hinv⟩ := hinv
      obtain ⟨u104, hinv⟩ := hinv
      obtain ⟨u105, hinv⟩ := hinv
      obtain ⟨u106, hinv⟩ := hinv
      obtain ⟨u107, hinv⟩ := hinv
      obtain ⟨u108, hinv⟩ := hinv
      obtain ⟨u109, hinv⟩ := hinv
      obtain ⟨u110, hinv⟩ := hinv
      obtain ⟨u111, hinv⟩ := hinv
      obtain ⟨u112, hinv⟩ := hinv
      obtain ⟨u113, hinv⟩ := hinv
      obtain ⟨u114, hinv⟩ := hinv
      obtain ⟨u115, hinv⟩ := hinv
      obtain ⟨u116, hinv⟩ := hinv
      obtain ⟨u117, hinv⟩ := hinv
      obtain ⟨u118, hinv⟩ := hinv
      obtain ⟨u119, hinv⟩ := hinv
      obtain ⟨u120, hinv⟩ := hinv
      obtain ⟨u121, hinv⟩ := hinv
      obtain ⟨u122, hinv⟩ := hinv
      obtain ⟨u123, hinv⟩ := hinv
      obtain ⟨u124, hinv⟩ := hinv
      obtain ⟨u125, hinv⟩ := hinv
      obtain ⟨u126, hinv⟩ := hinv
      obtain ⟨u127, hinv⟩ := hinv
      obtain ⟨u128, hinv⟩ := hinv
      obtain ⟨u129, hinv⟩ := hinv
      obtain ⟨⟨left, N, M, hrel⟩, ha'⟩ := hinv
      subst ha'
      try dsimp only
      have HREL := Lib.hid hrel
      have HITC := Lib.hid hrel.mem.iter
      have hne9 : ri ≠ bm := by have := HRI.out; omega
      have HBC : Hid (Below w.heap.size w wC) := Lib.hid (HWD.out.trans (hrel.mem.below.mono (by omega)))
      clear hrel
      by_cases hlw : left = []
      ·have HLW := Lib.hid hlw
       have g1 := HREL.out.mem.cell.cell
       have HSPC := Lib.hid (HSPD.out.below HREL.out.mem.below (by omega))
       have g2 := HSPC.out.cell
       have g3 := HSPC.out.free
       have HLBC := Lib.hid (HLB.out.below HREL.out.mem.below (by omega))
       obtain ⟨zy, ry⟩ := HLBC.out
       have HDN : Hid (Shows N (asgTo f (k + 1))) := Lib.hid (by have h := HREL.out.plain; rw [hlw] at h; exact h.done)
       have HNE : Hid (beforeI f (k + 1) = beforeI f k + (m : Int)) := Lib.hid (by show beforeI f k + ((lotAt f.lots k).ins.length : Int) = _; rw [HM.out])
       have hbf : 0 ≤ beforeI f k ∧ beforeI f k ≤ 1000000 := by have h1 := beforeI_mono (f := f) (show k ≤ f.lots.length by omega); have h2 := beforeI_mono (f := f) (show 0 ≤ k by omega); have h3 : beforeI f 0 = f.senders := rfl; have := H50.out; omega
       have HMY1 : Hid (manyTo f (k + 1) = false) := Lib.hid (by
        have h1 := shows_len HDN.out (keys8_nodup HREL.out.mem.next) (asg_vals h0 h8 HLK1.out (by have h1 := beforeI_mono (f := f) (show k + 1 ≤ f.lots.length by omega); have := H50.out; omega))
        have := HREL.out.few
        simp only [manyTo, HMY.out, Bool.false_or]
        exact decide_eq_false (by omega))
       clear hlw
       go_wp2_with (at_next; refine wpList_next_kdone rfl (.tmp 55) rfl rfl HITC.out hne9 HLW.out ?_)
       refine ⟨?_, ?_⟩
       focus
        refine ⟨rs2, ?_⟩
        repeat apply Exists.intro
        refine ⟨?_, rfl⟩
        refine ⟨k + 1, by omega, by go_num, ⟨⟨D, N, rfl, HREL.out.mem.next.setCell _ _ (by show D ≠ bs; omega), HDN.out, by omega⟩, HMY1.out, ?_, ?_, ?_, ?_⟩⟩
        ·rw [HNE.out]; exact HSPC.out.set _
        ·exact ((HBXD.out.below HREL.out.mem.below (by omega)).grown (grown_setCell wC ⟨bs, 0, none⟩ _) (by have := HBS.out; simp; omega))
        ·exact HBC.out.setCell (p := ⟨bs, 0, none⟩) (by have := HBS.out; show w.heap.size ≤ bs; omega) _
        ·exact HREL.out.mem.marks.grown (grown_setCell wC ⟨bs, 0, none⟩ _) (by obtain ⟨t, ht⟩ := HSPC.out; rw [ht]; simp)
       simp [intOf]; omega
      ·have HNN := Lib.hid hlw
       have HLBC := Lib.hid (HLB.out.below HREL.out.mem.below (by omega))
       have HBXC := Lib.hid (HBXD.out.below HREL.out.mem.below (by have := HBX.out.1; omega))
       go_wp2_with (first
        | (at_next; refine wpList_next_kmore rfl (.tmp 55) rfl rfl HITC.out hne9 HNN.out ?_; intro A x v Bl w3 hlw2 hit3 hg3 hz3 hen; have HIT3 := Lib.hid hit3; have HG3 := Lib.hid hg3; have HLW2 := Lib.hid hlw2; have HZ3 := Lib.hid hz3; have HLB3 := Lib.hid (HLBC.out.grown hg3 (by have := HRI.out; simp; omega)); have HBX3 := Lib.hid (HBXC.out.grown hg3 (by have := HBX.out.1; have := HRI.out; simp; omega)); obtain ⟨zy, ry⟩ := HLB3.out; rw [enc8_arr8 x] at hen ⊢; obtain ⟨arr, harr⟩ : ∃ arr, arrN x.1 = arr := ⟨_, rfl⟩; have HAR := Lib.hid harr; have HX8 := Lib.hid x.2.1; rw [harr] at hen ⊢; clear hit3 hg3 hz3 hlw2 harr)
        | ((with_reducible refine wpList_store8 (.tmp 12) (.tmp 59) HX8.out ?_ ?_ ?_ ?_ ?_); rotate_left; rfl; rfl; rfl; (rw [HAR.out]; rfl); rw [HAR.out])
        | (at_make; refine wpList_make_ints (m := m) (C := w3.heap.size) rfl _ _ rfl rfl rfl (by omega) (by simp) ?_; intro w5a ho5 hb5 hz5; have HO5 := Lib.hid ho5; have HB5a := Lib.hid hb5; have HZ5a := Lib.hid hz5; have HLB5 := Lib.hid ((HLB3.out.alloc (.cells arr 78)).ext hb5); obtain ⟨zz, rz⟩ := HLB5.out; clear ho5 hb5 hz5 zy ry))
       clear zz rz
       obtain ⟨P0, hP0⟩ : ∃ q, w3.heap.size = q := ⟨_, rfl⟩
       obtain ⟨w6, hw6⟩ : ∃ W, w5a.alloc (.cells #[.slice (some ⟨P0 + 1, 0, none⟩) m m] 25) = W := ⟨_, rfl⟩
       have hz5a : w5a.heap.size = P0 + 1 + 1 := by rw [HZ5a.out, World.size_alloc, hP0]
       have HPR : Hid (Row8 w6 P0 x.1) := Lib.hid (by
        rw [← hw6, ← hP0]
        have h1 := Row8.new w3 x.2.1
        rw [HAR.out] at h1
        exact (h1.ext HB5a.out).ext (box_below' _ _))
       have HOF : Hid (OwnInts P0 w6 (.slice (some ⟨P0 + 1, 0, none⟩) m m) (List.replicate m 0)) := Lib.hid (by
        rw [← hw6]
        have h1 := HO5.out.alloc (.cells #[.slice (some ⟨P0 + 1, 0, none⟩) m m] 25)
        rw [World.size_alloc, hP0] at h1
        exact h1)
       have HOC : Hid (Cell1 w6 (P0 + 1 + 1) (.slice (some ⟨P0 + 1, 0, none⟩) m m)) := Lib.hid (by rw [← hw6, ← hz5a]; exact Cell1.new _ _ _)
       have HB36 : Hid (Below P0 w3 w6) := Lib.hid (by
        rw [← hw6, ← hP0]
        exact ((box_below' w3 _).trans (HB5a.out.mono (by simp))).alloc (by have := hz5a; omega) _)
       have hz6 : w6.heap.size = P0 + 1 + 1 + 1 := by rw [← hw6]; simp [hz5a]
       simp only [hP0, hz5a, World.size_alloc]
       rw [hw6]
       obtain ⟨P1, hP1⟩ : ∃ q, P0 + 1 = q := ⟨_, rfl⟩
       rw [hP1] at HOF HOC hz6 ⊢
       obtain ⟨P2, hP2⟩ : ∃ q, P1 + 1 = q := ⟨_, rfl⟩
       rw [hP2] at HOC hz6 ⊢
       have hDP : D + 1 + 1 + 1 < P0 := by rw [← hP0]; have h1 := HIT3.out.lt; have := HRI.out; omega
       have HB3 : Hid (Below w.heap.size w w3) := Lib.hid (HBC.out.grown HG3.out HBC.out.size (fun j hj => by cases hj; have := HRI.out; omega))
       clear hw6 hz5a HO5 HB5a HLB5 HZ5a
       obtain ⟨p, hpm, hxp⟩ : ∃ p ∈ asgTo f k, x.1 = padL p := HREL.out.plain.left x (by rw [HLW2.out]; simp)
       have hpl : p.length = s := by rw [asg_len k p hpm, HTN.out]
       have HXP := Lib.hid hxp
       have HPM := Lib.hid hpm
       have htk : x.1.take s = p := by rw [hxp, ← hpl, padL_take]
       have HTK := Lib.hid htk
       obtain ⟨hpn, hpi, hin, hpb⟩ := ins_in HLOT.out (asg_all h0 k HLK.out p hpm)
       have HPN := Lib.hid hpn
       have HPI := Lib.hid hpi
       have HIND := Lib.hid hin
       obtain ⟨OF, hOF⟩ : ∃ q, ofL p (lotAt f.lots k).ins = q := ⟨_, rfl⟩
       have HOFD := Lib.hid hOF
       have hofl : OF.length = m := by rw [← hOF, ← HM.out]; simp [ofL]
       have HIX := Lib.hid (fun (i : Nat) (hi : i < m) => show idxI p (nth (lotAt f.lots k).ins i) = nth OF i by
        have hi' : i < (lotAt f.lots k).ins.length := by rw [HM.out]; exact hi
        rw [← hOF]
        unfold ofL idxI
        rw [if_pos (hpi _ (nth_mem' hi')), nth_map hi'])
       have HOFB := Lib.hid (fun (i : Nat) (hi : i < m) => show 0 ≤ nth OF i ∧ nth OF i < s by
        have hi' : i < (lotAt f.lots k).ins.length := by rw [HM.out]; exact hi
        rw [← hOF]
        unfold ofL
        rw [nth_map hi']
        have := List.idxOf_lt_length_of_mem (hpi _ (nth_mem' hi'))
        omega)
       clear hxp hpm htk hpn hpi hin hpb hOF
       go_loopw [67] (fun vi wr => ∃ i : Nat, i ≤ m ∧ vi = .int .i64 i ∧ OwnInts P0 wr (.slice (some ⟨P1, 0, none⟩) m m) (ofT OF i) ∧ w6.grownBy wr (some P1)) (fun vi _ => m - (intOf vi).toNat)
       case atStart => exact ⟨0, by omega, rfl, by rw [ofT_zero, hofl]; exact HOF.out, grown_refl _ _⟩
       case round =>
        obtain ⟨i, hi, rfl, ho, hg⟩ := hrel
        have HO6 := Lib.hid ho
        have HG6 := Lib.hid hg
        clear ho hg
        by_cases hil : i < m
        ·have hil' : decide ((i : Int) < m) = true := decide_eq_true (by omega)
         have hil2 : i < (lotAt f.lots k).ins.length := by rw [HM.out]; exact hil
         obtain ⟨bi, oi, cix, ⟨ai', hai, _, _, hal⟩, _, _, hic⟩ := HLI.out
         simp only [Value.slice.injEq] at hai
         obtain ⟨rfl, _, rfl⟩ := hai
         obtain rfl : ai = some ⟨bi, oi, none⟩ := by rcases hal with h | h; exact h; omega
         have qi := hic i hil2
         have hbiw : bi < w.heap.size := Nat.lt_of_lt_of_le qi.1 hB
         have HBwr : Hid (Below w.heap.size w wr) := Lib.hid ((HB3.out.trans (HB36.out.mono (by omega))).grown HG6.out (by have := HB36.out.size; omega) (fun j hj => by cases hj; omega))
         have e1 := (HBwr.out.cell (p := ⟨bi, oi + i, none⟩) hbiw).trans qi.2
         have HPRr := Lib.hid (HPR.out.grown HG6.out (by simp; omega))
         have HP2R : Hid (P2 < wr.heap.size ∧ wr.cell? ⟨P2, 0, none⟩ = some (.slice (some ⟨P1, 0, none⟩) m m)) := Lib.hid ⟨by have := HG6.out.size; omega, (HOC.out.grown HG6.out (by simp; omega)).cell⟩
         have HXR : Hid (w.heap.size < wr.heap.size ∧ wr.cell? ⟨w.heap.size, 0, none⟩ = some (.int .i64 (s : Int))) := Lib.hid (by
          have h1 := (HBX3.out.below HB36.out (by have := HBX.out.1; omega)).grown HG6.out (by have := HBX.out.1; simp; omega)
          exact ⟨h1.1, h1.2 0⟩)
         have hol : (ofT OF i).length = m := by rw [ofT_len (by omega)]; exact hofl
         have HOR : Hid (P1 < wr.heap.size ∧ wr.cell? ⟨P1, i, none⟩ = some (.int .i64 (nth (ofT OF i) i)) ∧ wr.frozen? ⟨P1, i, none⟩ = false) := Lib.hid ⟨by have := HG6.out.size; omega, HO6.out.cellAt hol.symm (by omega), HO6.out.freeAt hol.symm i⟩
         obtain ⟨z, hz⟩ : ∃ z, nth OF i = z := ⟨_, rfl⟩
         have HIDX := Lib.hid (fun W (hb : Below wr.heap.size wr W) => sindex_any _ W (.slice (some ⟨P0, 0, none⟩) s 8) p (nth (lotAt f.lots k).ins i) (by
          have h1 := ints8 (n := s) (HPRr.out.ext hb).box x.2.1 x.2.2 hn8
          rw [HTK.out] at h1
          exact h1))
         rw [HIX.out i hil, hz] at HIDX
         have hzb := HOFB.out i hil
         rw [hz] at hzb
         have HST := Lib.hid (fun W (hb : Below wr.heap.size wr W) => (HO6.out.below hb).store hol.symm i (y := z) (by unfold I64; omega))
         rw [← hz, ofT_set (by omega), hz] at HST
         have HZ := Lib.hid hz
         clear qi hic hal hz
         go_wp2
         obtain ⟨V, hV⟩ : ∃ V : List (Option Value), V = [some (.slice (some ⟨P1, 0, none⟩) m m), some (.int .i64 (i : Int)), some (.pointer (some ⟨w.heap.size, 0, none⟩)), some (.int .i64 (s : Int)), some (.slice (some ⟨P0, 0, none⟩) s 8), some (.int .i64 (nth (lotAt f.lots k).ins i)), some (.int .i64 z), some (.pointer (some ⟨P1, i, none⟩)), none] := ⟨_, rfl⟩
         have HVV := Lib.hid hV
         clear hV
         refine wp_region_V [some 72, some 73, some 74, some 75, some 76, some 77, some 78, some 79, none] (fun L w' xs => ValsAt V L xs ∧ ((L 8 = true → L 0 = true ∧ L 3 = true ∧ L 6 = true) ∧ (L 8 = false → Below wr.heap.size wr w') ∧ (L 8 = true → ∃ w0, Below wr.heap.size wr w0 ∧ w' = w0.setCell ⟨P1, i, none⟩ (.int .i64 z)))) (by kernel_rfl) (by kernel_rfl) (by rfl) (by rfl) (by rfl) ?_ ?_ ?_
         focus
          exact fun xs => ⟨ValsAt.none _ _, (fun h => by cases h), (fun _ => below_drewN (Below.refl _ wr) 1), (fun h => by cases h)⟩
         focus
          refine ⟨?_, ?_, ?_, ?_, ?_, ?_, ?_, ?_, ?_, trivial⟩
          all_goals
           intro L a' w' xs hi hd hf hJ K hK
           obtain ⟨hv, h0, h1, h2⟩ := hJ
           have HF := Lib.hid hf
           have HVA := Lib.hid hv
           have HLI := Lib.hid hi
           clear hf hv hi
          focus
           clear hd
           obtain ⟨ρ, hρ⟩ : ∃ ρ, a'.eval = ρ := ⟨_, rfl⟩
           have hcst := cstE hρ
           have l13 : ρ (.tmp 13) = .pointer (some ⟨P2, 0, none⟩) := (congrFun hρ (.tmp 13)).symm.trans (HF.out.lo 13 rfl)
           have h8 : L 8 = false := by
            cases h : L 8 with
            | false => rfl
            | true => exact absurd ((h0 h).1.symm.trans HLI.out) (by decide)
           have hb := h1 h8
           have e3 := (hb.cell (p := ⟨P2, 0, none⟩) HP2R.out.1).trans HP2R.out.2
           rw [if_pos (by simp [Region.wanted])]
           unfold Oper.wp
           rw [hρ]
           clear hρ
           go_simp
           exact hK.out _ _ ⟨HVA.out.set (i := 0) (by rw [HVV.out]; rfl), (by simp only [upd_ne (L := L) (show (3 : Nat) ≠ 0 by decide), upd_ne (L := L) (show (6 : Nat) ≠ 0 by decide), upd_ne (L := L) (show (8 : Nat) ≠ 0 by decide), upd_self]; exact fun h => absurd ((h0 h).1.symm.trans HLI.out) (by decide)), (by simp only [upd_ne (L := L) (show (3 : Nat) ≠ 0 by decide), upd_ne (L := L) (show (6 : Nat) ≠ 0 by decide), upd_ne (L := L) (show (8 : Nat) ≠ 0 by decide), upd_self]; exact h1), (by simp only [upd_ne (L := L) (show (3 : Nat) ≠ 0 by decide), upd_ne (L := L) (show (6 : Nat) ≠ 0 by decide), upd_ne (L := L) (show (8 : Nat) ≠ 0 by decide), upd_self]; exact h2)⟩
          focus
           clear hd
           obtain ⟨ρ, hρ⟩ : ∃ ρ, a'.eval = ρ := ⟨_, rfl⟩
           have hcst := cstE hρ
           have l14 : ρ (.tmp 14) = .int .i64 (i : Int) := (congrFun hρ (.tmp 14)).symm.trans (HF.out.lo 14 rfl)
           rw [if_pos (by simp [Region.wanted])]
           unfold Oper.wp
           rw [hρ]
           clear hρ
           go_simp
           exact hK.out _ _ ⟨HVA.out.set (i := 1) (by rw [HVV.out]; rfl), (by simp only [upd_ne (L := L) (show (0 : Nat) ≠ 1 by decide), upd_ne (L := L) (show (3 : Nat) ≠ 1 by decide), upd_ne (L := L) (show (6 : Nat) ≠ 1 by decide), upd_ne (L := L) (show (8 : Nat) ≠ 1 by decide)]; exact h0), (by simp only [upd_ne (L := L) (show (0 : Nat) ≠ 1 by decide), upd_ne (L := L) (show (3 : Nat) ≠ 1 by decide), upd_ne (L := L) (show (6 : Nat) ≠ 1 by decide), upd_ne (L := L) (show (8 : Nat) ≠ 1 by decide)]; exact h1), (by simp only [upd_ne (L := L) (show (0 : Nat) ≠ 1 by decide), upd_ne (L := L) (show (3 : Nat) ≠ 1 by decide), upd_ne (L := L) (show (6 : Nat) ≠ 1 by decide), upd_ne (L := L) (show (8 : Nat) ≠ 1 by decide)]; exact h2)⟩
          focus
           clear hd
           obtain ⟨ρ, hρ⟩ : ∃ ρ, a'.eval = ρ := ⟨_, rfl⟩
           have hcst := cstE hρ
           have l1 : ρ (.tmp 1) = .pointer (some ⟨w.heap.size, 0, none⟩) := (congrFun hρ (.tmp 1)).symm.trans (HF.out.lo 1 rfl)
           rw [if_pos (by simp [Region.wanted])]
           unfold Oper.wp
           rw [hρ]
           clear hρ
           go_simp
           exact hK.out _ _ ⟨HVA.out.set (i := 2) (by rw [HVV.out]; rfl), (by simp only [upd_ne (L := L) (show (0 : Nat) ≠ 2 by decide), upd_ne (L := L) (show (3 : Nat) ≠ 2 by decide), upd_ne (L := L) (show (6 : Nat) ≠ 2 by decide), upd_ne (L := L) (show (8 : Nat) ≠ 2 by decide)]; exact h0), (by simp only [upd_ne (L := L) (show (0 : Nat) ≠ 2 by decide), upd_ne (L := L) (show (3 : Nat) ≠ 2 by decide), upd_ne (L := L) (show (6 : Nat) ≠ 2 by decide), upd_ne (L := L) (show (8 : Nat) ≠ 2 by decide)]; exact h1), (by simp only [upd_ne (L := L) (show (0 : Nat) ≠ 2 by decide), upd_ne (L := L) (show (3 : Nat) ≠ 2 by decide), upd_ne (L := L) (show (6 : Nat) ≠ 2 by decide), upd_ne (L := L) (show (8 : Nat) ≠ 2 by decide)]; exact h2)⟩
          focus
           obtain ⟨d2, _⟩ := hd
           obtain ⟨ρ, hρ⟩ : ∃ ρ, a'.eval = ρ := ⟨_, rfl⟩
           have hcst := cstE hρ
           have v2 : ρ (.tmp 74) = .pointer (some ⟨w.heap.size, 0, none⟩) := (congrFun hρ (.tmp 74)).symm.trans ((HF.out.ev 2 rfl d2).trans (HVA.out 2 _ (by rw [HVV.out]; rfl) d2))
           have h8 : L 8 = false := by
            cases h : L 8 with
            | false => rfl
            | true => exact absurd ((h0 h).2.1.symm.trans HLI.out) (by decide)
           have hb := h1 h8
           have e3 := (hb.cell (p := ⟨w.heap.size, 0, none⟩) HXR.out.1).trans HXR.out.2
           rw [if_pos (by simp [Region.wanted])]
           unfold Oper.wp
           rw [hρ]
           clear hρ
           go_simp
           exact hK.out _ _ ⟨HVA.out.set (i := 3) (by rw [HVV.out]; rfl), (by simp only [upd_ne (L := L) (show (0 : Nat) ≠ 3 by decide), upd_ne (L := L) (show (6 : Nat) ≠ 3 by decide), upd_ne (L := L) (show (8 : Nat) ≠ 3 by decide), upd_self]; exact fun h => absurd ((h0 h).2.1.symm.trans HLI.out) (by decide)), (by simp only [upd_ne (L := L) (show (0 : Nat) ≠ 3 by decide), upd_ne (L := L) (show (6 : Nat) ≠ 3 by decide), upd_ne (L := L) (show (8 : Nat) ≠ 3 by decide), upd_self]; exact h1), (by simp only [upd_ne (L := L) (show (0 : Nat) ≠ 3 by decide), upd_ne (L := L) (show (6 : Nat) ≠ 3 by decide), upd_ne (L := L) (show (8 : Nat) ≠ 3 by decide), upd_self]; exact h2)⟩
          focus
           obtain ⟨d3, _⟩ := hd
           obtain ⟨ρ, hρ⟩ : ∃ ρ, a'.eval = ρ := ⟨_, rfl⟩
           have hcst := cstE hρ
           have l12 : ρ (.tmp 12) = .pointer (some ⟨P0, 0, none⟩) := (congrFun hρ (.tmp 12)).symm.trans (HF.out.lo 12 rfl)
           have v3 : ρ (.tmp 75) = .int .i64 (s : Int) := (congrFun hρ (.tmp 75)).symm.trans ((HF.out.ev 3 rfl d3).trans (HVA.out 3 _ (by rw [HVV.out]; rfl) d3))
           have hs9 : (s : Int) ≤ 8 := by omega
           rw [if_pos (by simp [Region.wanted])]
           unfold Oper.wp
           rw [hρ]
           clear hρ
           go_simp
           exact hK.out _ _ ⟨HVA.out.set (i := 4) (by rw [HVV.out]; rfl), (by simp only [upd_ne (L := L) (show (0 : Nat) ≠ 4 by decide), upd_ne (L := L) (show (3 : Nat) ≠ 4 by decide), upd_ne (L := L) (show (6 : Nat) ≠ 4 by decide), upd_ne (L := L) (show (8 : Nat) ≠ 4 by decide)]; exact h0), (by simp only [upd_ne (L := L) (show (0 : Nat) ≠ 4 by decide), upd_ne (L := L) (show (3 : Nat) ≠ 4 by decide), upd_ne (L := L) (show (6 : Nat) ≠ 4 by decide), upd_ne (L := L) (show (8 : Nat) ≠ 4 by decide)]; exact h1), (by simp only [upd_ne (L := L) (show (0 : Nat) ≠ 4 by decide), upd_ne (L := L) (show (3 : Nat) ≠ 4 by decide), upd_ne (L := L) (show (6 : Nat) ≠ 4 by decide), upd_ne (L := L) (show (8 : Nat) ≠ 4 by decide)]; exact h2)⟩
          focus
           clear hd
           obtain ⟨ρ, hρ⟩ : ∃ ρ, a'.eval = ρ := ⟨_, rfl⟩
           have hcst := cstE hρ
           have l15 : ρ (.tmp 15) = .int .i64 (nth (lotAt f.lots k).ins i) := (congrFun hρ (.tmp 15)).symm.trans (HF.out.lo 15 rfl)
           rw [if_pos (by simp [Region.wanted])]
           unfold Oper.wp
           rw [hρ]
           clear hρ
           go_simp
           exact hK.out _ _ ⟨HVA.out.set (i := 5) (by rw [HVV.out]; rfl), (by simp only [upd_ne (L := L) (show (0 : Nat) ≠ 5 by decide), upd_ne (L := L) (show (3 : Nat) ≠ 5 by decide), upd_ne (L := L) (show (6 : Nat) ≠ 5 by decide), upd_ne (L := L) (show (8 : Nat) ≠ 5 by decide)]; exact h0), (by simp only [upd_ne (L := L) (show (0 : Nat) ≠ 5 by decide), upd_ne (L := L) (show (3 : Nat) ≠ 5 by decide), upd_ne (L := L) (show (6 : Nat) ≠ 5 by decide), upd_ne (L := L) (show (8 : Nat) ≠ 5 by decide)]; exact h1), (by simp only [upd_ne (L := L) (show (0 : Nat) ≠ 5 by decide), upd_ne (L := L) (show (3 : Nat) ≠ 5 by decide), upd_ne (L := L) (show (6 : Nat) ≠ 5 by decide), upd_ne (L := L) (show (8 : Nat) ≠ 5 by decide)]; exact h2)⟩
          focus
           obtain ⟨d4, d5, _⟩ := hd
           obtain ⟨ρ, hρ⟩ : ∃ ρ, a'.eval = ρ := ⟨_, rfl⟩
           have hcst := cstE hρ
           have hfun : ∀ k, ρ (.func k) = .func (.func k) #[] #[] := fun k => (congrFun hρ (.func k)).symm
           have v4 : ρ (.tmp 76) = .slice (some ⟨P0, 0, none⟩) s 8 := (congrFun hρ (.tmp 76)).symm.trans ((HF.out.ev 4 rfl d4).trans (HVA.out 4 _ (by rw [HVV.out]; rfl) d4))
           have v5 : ρ (.tmp 77) = .int .i64 (nth (lotAt f.lots k).ins i) := (congrFun hρ (.tmp 77)).symm.trans ((HF.out.ev 5 rfl d5).trans (HVA.out 5 _ (by rw [HVV.out]; rfl) d5))
           rw [if_pos (by simp [Region.wanted])]
           unfold Oper.wp
           rw [hρ]
           clear hρ
           have h8 : L 8 = false := by
            cases h : L 8 with
            | false => rfl
            | true => exact absurd ((h0 h).2.2.symm.trans HLI.out) (by decide)
           have hb := h1 h8
           have HIX := Lib.hid (HIDX.out w' hb)
           have H0 := Lib.hid h0
           have H1 := Lib.hid h1
           have H2 := Lib.hid h2
           have H8 := Lib.hid h8
           clear h0 h1 h2 h8 hb
           go_simp
           go_at_call 40
           refine HIX.out.mono ?_
           rintro e w5' ⟨rfl, hw5'⟩
           obtain rfl := hw5'.symm
           exact hK.out _ _ ⟨HVA.out.set (i := 6) (by rw [HVV.out]; rfl), (by simp only [upd_ne (L := L) (show (0 : Nat) ≠ 6 by decide), upd_ne (L := L) (show (3 : Nat) ≠ 6 by decide), upd_ne (L := L) (show (8 : Nat) ≠ 6 by decide), upd_self]; exact fun h => by rw [H8.out] at h; cases h), (by simp only [upd_ne (L := L) (show (0 : Nat) ≠ 6 by decide), upd_ne (L := L) (show (3 : Nat) ≠ 6 by decide), upd_ne (L := L) (show (8 : Nat) ≠ 6 by decide), upd_self]; exact H1.out), (by simp only [upd_ne (L := L) (show (0 : Nat) ≠ 6 by decide), upd_ne (L := L) (show (3 : Nat) ≠ 6 by decide), upd_ne (L := L) (show (8 : Nat) ≠ 6 by decide), upd_self]; exact H2.out)⟩
          focus
           obtain ⟨d0, d1, _, _, d2, d3, d4, d5, d6, _⟩ := hd
           obtain ⟨ρ, hρ⟩ : ∃ ρ, a'.eval = ρ := ⟨_, rfl⟩
           have hcst := cstE hρ
           have v0 : ρ (.tmp 72) = .slice (some ⟨P1, 0, none⟩) m m := (congrFun hρ (.tmp 72)).symm.trans ((HF.out.ev 0 rfl d0).trans (HVA.out 0 _ (by rw [HVV.out]; rfl) d0))
           have v1 : ρ (.tmp 73) = .int .i64 (i : Int) := (congrFun hρ (.tmp 73)).symm.trans ((HF.out.ev 1 rfl d1).trans (HVA.out 1 _ (by rw [HVV.out]; rfl) d1))
           rw [if_pos (by simp [Region.wanted])]
           unfold Oper.wp
           rw [hρ]
           clear hρ
           go_simp
           exact hK.out _ _ ⟨HVA.out.set (i := 7) (by rw [HVV.out]; rfl), (by simp only [upd_ne (L := L) (show (0 : Nat) ≠ 7 by decide), upd_ne (L := L) (show (3 : Nat) ≠ 7 by decide), upd_ne (L := L) (show (6 : Nat) ≠ 7 by decide), upd_ne (L := L) (show (8 : Nat) ≠ 7 by decide)]; exact h0), (by simp only [upd_ne (L := L) (show (0 : Nat) ≠ 7 by decide), upd_ne (L := L) (show (3 : Nat) ≠ 7 by decide), upd_ne (L := L) (show (6 : Nat) ≠ 7 by decide), upd_ne (L := L) (show (8 : Nat) ≠ 7 by decide)]; exact h1), (by simp only [upd_ne (L := L) (show (0 : Nat) ≠ 7 by decide), upd_ne (L := L) (show (3 : Nat) ≠ 7 by decide), upd_ne (L := L) (show (6 : Nat) ≠ 7 by decide), upd_ne (L := L) (show (8 : Nat) ≠ 7 by decide)]; exact h2)⟩
          focus
           obtain ⟨d7, d6, _, d0, d1, d2, d3, d4, d5, _, _⟩ := hd
           obtain ⟨ρ, hρ⟩ : ∃ ρ, a'.eval = ρ := ⟨_, rfl⟩
           have hcst := cstE hρ
           have v7 : ρ (.tmp 79) = .pointer (some ⟨P1, i, none⟩) := (congrFun hρ (.tmp 79)).symm.trans ((HF.out.ev 7 rfl d7).trans (HVA.out 7 _ (by rw [HVV.out]; rfl) d7))
           have v6 : ρ (.tmp 78) = .int .i64 z := (congrFun hρ (.tmp 78)).symm.trans ((HF.out.ev 6 rfl d6).trans (HVA.out 6 _ (by rw [HVV.out]; rfl) d6))
           rw [if_pos (by simp [Region.wanted])]
           unfold Oper.wp
           rw [hρ]
           clear hρ
           have hb := h1 HLI.out
           have e3 := (hb.cell (p := ⟨P1, i, none⟩) HOR.out.1).trans HOR.out.2.1
           have e4 := (hb.frozen (p := ⟨P1, i, none⟩) HOR.out.1).trans HOR.out.2.2
           have HBB9 := Lib.hid hb
           have HD0 := Lib.hid d0
           have HD3 := Lib.hid d3
           have HD6 := Lib.hid d6
           clear h0 h1 h2 hb
           go_simp
           exact hK.out undef _ ⟨HVA.out.free (i := 8) (by rw [HVV.out]; rfl) _, (by simp only [upd_ne (L := L) (show (0 : Nat) ≠ 8 by decide), upd_ne (L := L) (show (3 : Nat) ≠ 8 by decide), upd_ne (L := L) (show (6 : Nat) ≠ 8 by decide), upd_self]; exact fun _ => ⟨HD0.out, HD3.out, HD6.out⟩), (by simp only [upd_ne (L := L) (show (0 : Nat) ≠ 8 by decide), upd_ne (L := L) (show (3 : Nat) ≠ 8 by decide), upd_ne (L := L) (show (6 : Nat) ≠ 8 by decide), upd_self]; exact fun h => by cases h), (by simp only [upd_ne (L := L) (show (0 : Nat) ≠ 8 by decide), upd_ne (L := L) (show (3 : Nat) ≠ 8 by decide), upd_ne (L := L) (show (6 : Nat) ≠ 8 by decide), upd_self]; exact fun _ => ⟨_, HBB9.out, rfl⟩)⟩
         focus
          intro L w' xs hL hJ
          obtain ⟨hv, h0, h1, h2⟩ := hJ
          have e0 : xs 0 = .slice (some ⟨P1, 0, none⟩) m m := hv 0 _ (by rw [HVV.out]; rfl) (hL 0 (by decide))
          have e1 : xs 1 = .int .i64 (i : Int) := hv 1 _ (by rw [HVV.out]; rfl) (hL 1 (by decide))
          have e2 : xs 2 = .pointer (some ⟨w.heap.size, 0, none⟩) := hv 2 _ (by rw [HVV.out]; rfl) (hL 2 (by decide))
          have e3 : xs 3 = .int .i64 (s : Int) := hv 3 _ (by rw [HVV.out]; rfl) (hL 3 (by decide))
          have e4 : xs 4 = .slice (some ⟨P0, 0, none⟩) s 8 := hv 4 _ (by rw [HVV.out]; rfl) (hL 4 (by decide))
          have e5 : xs 5 = .int .i64 (nth (lotAt f.lots k).ins i) := hv 5 _ (by rw [HVV.out]; rfl) (hL 5 (by decide))
          have e6 : xs 6 = .int .i64 z := hv 6 _ (by rw [HVV.out]; rfl) (hL 6 (by decide))
          have e7 : xs 7 = .pointer (some ⟨P1, i, none⟩) := hv 7 _ (by rw [HVV.out]; rfl) (hL 7 (by decide))
          simp only [putGo, Act.put, List.setIfInBounds_toArray, List.set_cons_zero, List.set_cons_succ, e0, e1, e2, e3, e4, e5, e6, e7]
          clear hv e0 e1 e2 e3 e4 e5 e6 e7
         obtain ⟨w0, hb0, hw0⟩ := h2 (hL 8 (by decide))
         rw [hw0]
         have HB0 := Lib.hid hb0
         clear h0 h1 h2 hL hw0 hb0
         go_wp2
         go_roundw
         case rel =>
          refine ⟨i + 1, by omega, by go_num, HST.out w0 HB0.out, ?_⟩
          exact grown_trans HG6.out (grown_trans (grown_below HB0.out (some P1)) (grown_setCell w0 ⟨P1, i, none⟩ _))
         case measure => simp [intOf]; omega
        ·have hil' : decide ((i : Int) < m) = false := decide_eq_false (by omega)
         have him : i = m := by omega
         have HOE : Hid (OwnInts P0 wr (.slice (some ⟨P1, 0, none⟩) m m) OF) := Lib.hid (by
          have h1 := HO6.out
          rw [him, ← hofl, ofT_all] at h1
          rw [hofl] at h1
          exact h1)
         clear HO6
         obtain ⟨wE, rfl⟩ : ∃ W, W = wr := ⟨_, rfl⟩
         have hw3s : w3.heap.size = P0 := hP0
         have HEE : Hid (Below w3.heap.size w3 wE) := Lib.hid (by
          rw [hw3s]
          exact HB36.out.grown HG6.out (by have := HB36.out.size; omega) (fun j hj => by cases hj; omega))
         have HME : Hid (StMem wD w.heap.size D bm ri S (A ++ Bl) N M rs2 wE) := Lib.hid ((HREL.out.mem.pass HIT3.out HG3.out HRI.out).ext HEE.out)
         have HPRe := Lib.hid (HPR.out.grown HG6.out (by simp; omega))
         have HOCe := Lib.hid (HOC.out.grown HG6.out (by simp; omega))
         have HLBe := Lib.hid (HLB3.out.ext HEE.out)
         have hzE : P2 < wE.heap.size := by have := HG6.out.size; omega
         have HPL : Hid (StP f k (A.map (fun p => p.1) ++ x :: Bl.map (fun p => p.1)) N M) := Lib.hid (by
          have h1 := HREL.out.plain
          rw [HLW2.out, List.map_append, List.map_cons] at h1
          exact h1)
         have HLM : Hid ((A ++ Bl).map (fun p => p.1) = A.map (fun p => p.1) ++ Bl.map (fun p => p.1)) := Lib.hid (by rw [List.map_append])
         have HHW : Hid (left.length = (A ++ Bl).length + 1) := Lib.hid (by rw [HLW2.out]; simp; omega)
         have HLFT := Lib.hid HITC.out.count
         obtain ⟨zy, ry⟩ := HLBe.out
         clear hzE hw3s
         cases kn
         ·have HKN' : Hid ((lotAt f.lots k).known = false) := HKN
          have c13 := HOCe.out.cell
          have HSO := Lib.hid (sort_own HOE.out)
          go_wp2_with (first
           | (go_at_call 41; refine HSO.out.mono ?_; rintro e w7 ⟨rfl, ho7, hg7⟩; have HO7 := Lib.hid ho7; have HG7 : Hid (wE.grownBy w7 (some P1)) := Lib.hid hg7; have HPR7 := Lib.hid (HPRe.out.grown HG7.out (by simp; omega)); have HOC7 := Lib.hid (HOCe.out.grown HG7.out (by simp; omega)); have HOC8 := Lib.hid (HOC7.out.alloc (.cells arr 78)); have c14 := HOC8.out.cell; clear ho7 hg7)
           | ((with_reducible refine wpList_load8 (.tmp 12) HPR7.out ?_ ?_ ?_ ?_); rotate_left; rfl; rfl; rfl; rw [HAR.out])
           | ((with_reducible refine wpList_store8 (.tmp 16) (.tmp 86) HX8.out ?_ ?_ ?_ ?_ ?_); rotate_left; rfl; rfl; rfl; (rw [HAR.out]; rfl); rw [HAR.out]))
          obtain ⟨w8q, hw8q⟩ : ∃ W, w7.alloc (.cells arr 78) = W := ⟨_, rfl⟩
          obtain ⟨Q0, hQ0⟩ : ∃ q, w7.heap.size = q := ⟨_, rfl⟩
          have hz7 : P2 < Q0 := by rw [← hQ0]; exact HOC7.out.lt
          have HRQ : Hid (Row8 w8q Q0 x.1) := Lib.hid (by
           have h1 := Row8.new w7 x.2.1
           rw [HAR.out, hw8q, hQ0] at h1
           exact h1)
          have HE7 : Hid (Below w3.heap.size w3 w7) := Lib.hid (HEE.out.grown HG7.out HEE.out.size (fun j hj => by cases hj; have := hP0; omega))
          have HE8 : Hid (Below w3.heap.size w3 w8q) := Lib.hid (by rw [← hw8q]; exact HE7.out.alloc HE7.out.size _)
          obtain ⟨sv, hsv⟩ : ∃ q, sortI OF = q := ⟨_, rfl⟩
          rw [hsv] at HO7
          have HO8 : Hid (OwnInts P0 w8q (.slice (some ⟨P1, 0, none⟩) m m) sv) := Lib.hid (by rw [← hw8q]; exact HO7.out.alloc _)
          have HSVP : Hid (sv.Perm (ofL p (lotAt f.lots k).ins)) := Lib.hid (by rw [← hsv, HOFD.out]; exact sortI_perm OF)
          have hsvl : sv.length = m := by rw [HSVP.out.length_eq, HOFD.out, hofl]
          have HSVN : Hid sv.Nodup := Lib.hid (HSVP.out.nodup_iff.2 (ofL_nodup HIND.out HPI.out))
          have HSVB := Lib.hid (fun (i : Nat) (hi : i < m) => show ∃ j : Nat, nth sv i = (j : Int) ∧ j < s by
           have h1 : nth sv i ∈ OF := by
            rw [← HOFD.out]
            exact HSVP.out.mem_iff.1 (nth_mem' (by omega))
           obtain ⟨t, ht, he⟩ := List.mem_iff_getElem.1 h1
           have h2 := HOFB.out t (by omega)
           rw [nth_lt ht, he] at h2
           exact ⟨(nth sv i).toNat, by omega, by omega⟩)
          have hbf : 0 ≤ beforeI f k ∧ beforeI f k ≤ 1000000 := by have h1 := beforeI_mono (f := f) (show k ≤ f.lots.length by omega); have h2 := beforeI_mono (f := f) (show 0 ≤ k by omega); have h3 : beforeI f 0 = f.senders := rfl; have := H50.out; omega
          have hbf1 := hbf.1
          have hbf2 := hbf.2
          have HM8q : Hid (StMem wD w.heap.size D bm ri S (A ++ Bl) N M rs2 w8q) := Lib.hid ((HREL.out.mem.pass HIT3.out HG3.out HRI.out).ext HE8.out)
          have HOC8q : Hid (Cell1 w8q P2 (.slice (some ⟨P1, 0, none⟩) m m)) := Lib.hid (by rw [← hw8q]; exact HOC7.out.alloc _)
          have HPR8 : Hid (Row8 w8q P0 x.1) := Lib.hid (by rw [← hw8q]; exact HPR7.out.ext (box_below' _ _))
          rw [hw8q, hQ0]
          clear hw8q hQ0 hsv hbf zy ry c13 c14 HSO HOC8
          go_loopw [89] (fun vi wr => ∃ i : Nat, i ≤ m ∧ vi = .int .i64 i ∧ Row8 wr Q0 (padL (putsL (beforeI f k) (sv.take i) (idL m) p)) ∧ w8q.grownBy wr (some Q0)) (fun vi _ => m - (intOf vi).toNat)
          case atStart => exact ⟨0, by omega, rfl, by rw [List.take_zero, putsL_nil, ← HXP.out]; exact HRQ.out, grown_refl _ _⟩
          case round =>
           obtain ⟨i2, hi2, rfl, hrow, hg⟩ := hrel
           have HRW := Lib.hid hrow
           have HG8 := Lib.hid hg
           clear hrow hg HRQ
           have HDwr : Hid (Below D wD wr) := Lib.hid (HM8q.out.below.grown HG8.out (Nat.le_of_lt HM8q.out.next.lt) (fun j hj => by cases hj; omega))
           by_cases hil : i2 < m
           ·have hil'' : decide ((i2 : Int) < m) = true := decide_eq_true (by omega)
            obtain ⟨j, hj, hjs⟩ := HSVB.out i2 hil
            have e1 := (HO8.out.kept HG8.out (.inr (by simp [Value.ownBlock]; omega))).cellAt hsvl.symm (j := i2) (by omega)
            rw [hj] at e1
            have hj8 : (j : Int) < 8 := by omega
            have e2 := (HSPD.out.below HDwr.out (by omega)).cell
            have e3 := HRW.out.cell (j := j) (by omega)
            have e4 := HRW.out.free (j := j)
            have HST := Lib.hid (HRW.out.set j (beforeI f k + (i2 : Int)))
            have HSU : Hid ((padL (putsL (beforeI f k) (sv.take i2) (idL m) p)).set j (beforeI f k + (i2 : Int)) = padL (putsL (beforeI f k) (sv.take (i2 + 1)) (idL m) p)) := Lib.hid (by
             rw [padL_set _ (by rw [putsL_len]; omega), putsL_succ HSVN.out (by omega) hj (by omega)]
             congr 3
             unfold idL
             rw [nth_lt (by simp; omega), List.getElem_map, List.getElem_range]
             rfl)
            rw [HSU.out] at HST
            clear hj
            go_wp2
            go_roundw
            case rel => exact ⟨i2 + 1, by omega, by go_num, HST.out, grown_trans HG8.out (grown_setCell wr ⟨Q0, j, none⟩ _)⟩
            case measure => simp [intOf]; omega
           ·have hil'' : decide ((i2 : Int) < m) = false := decide_eq_false (by omega)
            have hie : i2 = m := by omega
            have HRF : Hid (Row8 wr Q0 (padL (putsL (beforeI f k) sv (idL m) p))) := Lib.hid (by
             have h1 := HRW.out
             rw [hie, ← hsvl, List.take_length, hsvl] at h1
             exact h1)
            clear HRW
            have HUN : Hid ((lotAt f.lots k).known = false) := HKN'
            have HQO : Hid (putsL (beforeI f k) sv (idL m) p ∈ asgTo f (k + 1)) := Lib.hid (by
             have h1 := (outs_unknown HLOT.out (asg_all h0 k HLK.out p HPM.out) HUN.out HSVP.out (putsL (beforeI f k) sv (idL m) p)).2 ⟨idL m, by unfold permsOf; rw [HUN.out]; exact mem_permsL.2 (by rw [HM.out]; exact idL_perm m), rfl⟩
             obtain ⟨π, hπ, he⟩ := List.mem_map.1 h1
             exact mem_asgTo.2 ⟨p, HPM.out, π, hπ, he.symm⟩)
            obtain ⟨y, hy⟩ := asg_vals h0 h8 HLK1.out (by have h1 := beforeI_mono (f := f) (show k + 1 ≤ f.lots.length by omega); have := H50.out; omega) _ HQO.out
            have HY := Lib.hid hy
            rw [← hy] at HRF
            have HMW : Hid (StMem wD w.heap.size D bm ri S (A ++ Bl) N M rs2 wr) := Lib.hid ((HREL.out.mem.pass HIT3.out HG3.out HRI.out).ext (HE8.out.grown HG8.out HE8.out.size (fun j hj => by cases hj; have := hP0; omega)))
            have HEW : Hid (Below w3.heap.size w3 wr) := Lib.hid (HE8.out.grown HG8.out HE8.out.size (fun j hj => by cases hj; have := hP0; omega))
            have HOCW := Lib.hid (HOC8q.out.grown HG8.out (by simp; omega))
            have HPRW := Lib.hid (HPR8.out.grown HG8.out (by simp; omega))
            have HOFW : Hid (OwnInts P0 wr (.slice (some ⟨P1, 0, none⟩) m m) sv) := Lib.hid (HO8.out.kept HG8.out (.inr (by simp [Value.ownBlock]; omega)))
            have HLBW := Lib.hid (HLB3.out.ext HEW.out)
            clear hy
            by_cases hym : y ∈ M
            ·have hbq : decide (y ∈ M) = true := decide_eq_true hym
             have HYM := Lib.hid hym
             have HBQ := Lib.hid hbq
             clear hym hbq
             go_wp2_with (first
              | ((with_reducible refine wpList_load8 (.tmp 16) HRF.out ?_ ?_ ?_ ?_); rotate_left; rfl; rfl; rfl)
              | (at_lookup; refine wpList_lookup_k encK8 rfl (.tmp 100) (.tmp 101) false rfl Tryz.underlying79 (Tryz.zeroValue4 _) rfl HMW.out.met (x := y) rfl ?_; simp only [Bool.false_eq_true, if_false]; rw [klook_keys8, HBQ.out]))
             refine ⟨?_, ?_⟩
             focus
              refine ⟨rs2, ?_⟩
              repeat apply Exists.intro
              refine ⟨?_, rfl⟩
              refine ⟨A ++ Bl, N, M, HMW.out, ?_, HREL.out.few⟩
              rw [HLM.out]
              exact StP.skip h0 HLT.out hlt HPL.out HXP.out HPM.out HUN.out HYM.out HSVP.out (by rw [HM.out]; exact HY.out)
             rw [HMW.out.iter.count, HLFT.out, HHW.out]
             exact Nat.lt_succ_self _
            ·have hbq : decide (y ∈ M) = false := decide_eq_false hym
             have HYM := Lib.hid hym
             have HBQ := Lib.hid hbq
             clear hym hbq
             go_wp2_with (first
              | ((with_reducible refine wpList_load8 (.tmp 16) HRF.out ?_ ?_ ?_ ?_); rotate_left; rfl; rfl; rfl)
              | (at_lookup; refine wpList_lookup_k encK8 rfl (.tmp 100) (.tmp 101) false rfl Tryz.underlying79 (Tryz.zeroValue4 _) rfl HMW.out.met (x := y) rfl ?_; simp only [Bool.false_eq_true, if_false]; rw [klook_keys8, HBQ.out])
              | (at_mapUpdate; refine wpList_update_k encK8 rfl (.tmp 103) (.tmp 104) (.const (.bool true)) rfl Tryz.underlying79 rfl HMW.out.met (x := y) (v := .bool true) rfl rfl ?_; intro wM hmM hgM hzM; rw [kset_keys8] at hmM; have HMM := Lib.hid hmM; have HGM := Lib.hid hgM; clear hmM hgM hzM; have HLBM := Lib.hid (HLBW.out.grown HGM.out (by simp; omega)); obtain ⟨zy, ry⟩ := HLBM.out)
              | fail)
             have HLBM := Lib.hid (HLBW.out.grown HGM.out (by simp; omega))
             obtain ⟨MM, hMM⟩ : ∃ q, addK M y = q := ⟨_, rfl⟩
             rw [hMM] at HMM
             have HTM : Hid (StMem wD w.heap.size D bm ri S (A ++ Bl) N MM rs2 wM) := Lib.hid (HMW.out.meet HMM.out HGM.out HRI.out (by omega))
             have HTP := Lib.hid (HPRW.out.grown HGM.out (by simp; omega))
             have HTC := Lib.hid (HOCW.out.grown HGM.out (by simp; omega))
             have HTO : Hid (OwnInts P0 wM (.slice (some ⟨P1, 0, none⟩) m m) sv) := Lib.hid (HOFW.out.kept HGM.out (.inr (by simp [Value.ownBlock]; omega)))
             have HTW : Hid (Below w.heap.size w wM) := Lib.hid ((HB3.out.trans (HEW.out.mono (by have := HB3.out.size; omega))).grown HGM.out (by have := HEW.out.size; have := HB3.out.size; omega) (fun q hq => by cases hq; omega))
             have HTS := Lib.hid (fun q => outs_unknown HLOT.out (asg_all h0 k HLK.out p HPM.out) HUN.out HSVP.out q)
             have HTMET : Hid (∀ z ∈ MM, z ∈ M ∨ ∃ s' : List Int, s'.Perm (ofL p (lotAt f.lots k).ins) ∧ z.1 = padL (putsL (beforeI f k) s' (idL (lotAt f.lots k).ins.length) p)) := Lib.hid (fun z hz => by
              rw [← hMM] at hz
              rcases mem_addK.1 hz with rfl | hz
              ·exact .inr ⟨sv, HSVP.out, by rw [HM.out]; exact HY.out⟩
              ·exact .inl hz)
             clear hMM
             clear zy ry
             obtain ⟨zy, ry⟩ := HLBM.out
             have HLOTM : Hid (IsLot B wM (.slice ai m ci) (.bool false) (.slice ap (lotAt f.lots k).perm.length cp) (lotAt f.lots k)) := Lib.hid (by
              have h1 := HLI.out
              rw [HM.out] at h1
              exact ⟨h1.below HTW.out hB, by rw [HKN.out], HLP.out.below HTW.out hB⟩)
             have hzw : w.heap.size ≤ wM.heap.size := HTW.out.size
             go_wp2_with fail
             refine (ways_any B wM _ _ _ (lotAt f.lots k) HLOTM.out (by omega) (by rw [HM.out]; omega)).mono ?_
             rintro e wG ⟨gf, lb, bx, rfl, heg, hbx1, hbx2, hit, hbG⟩
             have HBG := Lib.hid hbG
             have HITG := Lib.hid hit
             have HTMG : Hid (StMem wD w.heap.size D bm ri S (A ++ Bl) N MM rs2 wG) := Lib.hid (HTM.out.ext hbG)
             have HTPG := Lib.hid (HTP.out.ext hbG)
             have HTCG := Lib.hid (HTC.out.ext hbG)
             have HTOG : Hid (OwnInts P0 wG (.slice (some ⟨P1, 0, none⟩) m m) sv) := Lib.hid (HTO.out.below hbG)
             have HTWG : Hid (Below w.heap.size w wG) := Lib.hid (HTW.out.trans (hbG.mono HTW.out.size))
             have HSPG : Hid (Cell1 wG bs (.int .i64 (beforeI f k))) := Lib.hid (HSPD.out.below HTMG.out.below (by omega))
             have hbx3 : D < bx := by have := HTM.out.next.lt; omega
             have HBX3 := Lib.hid hbx3
             have hPG : P2 < wG.heap.size := HTCG.out.lt
             have HPLN : Hid (∀ j, j < (permsOf (lotAt f.lots k)).length → (rowAt (permsOf (lotAt f.lots k)) j).length = m ∧ ∀ q ∈ rowAt (permsOf (lotAt f.lots k)) j, 0 ≤ q ∧ q ≤ 8) := Lib.hid (fun j hj => by
              rw [rowAt_get hj]
              obtain ⟨p1, p2, p3⟩ := permB_parts (permsOf_perm HLOT.out (List.getElem_mem hj))
              rw [HM.out] at p2 p1
              exact ⟨p2, fun q hq => by have := p1 q hq; omega⟩)
             clear hit hbG zy ry
             go_wp2
             refine (wpIn_wide (n := 11)).1 ?_
             refine range_lawB (w := wG) rfl heg HITG.out (Turned.refl _ _) (fun q hq => by rcases hq with hq | rfl; have := HTWG.out.size; omega; exact hbx2) (fun q => q = D) (fun q hq => ⟨by rw [hq]; exact HTMG.out.next.lt, by rw [hq]; rintro (h | h); omega; have := HBX3.out; omega⟩)
              (fun i W args h => by obtain ⟨v, rfl, _⟩ := h; rfl)
              (fun s' i W => ∃ N', KMap enc8 W D (keys8 N') ∧ (∀ y : K8, y ∈ N' ↔ y ∈ N ∨ ∃ j, j < i ∧ y.1 = padL (putsL (beforeI f k) sv (rowAt (permsOf (lotAt f.lots k)) j) p)) ∧ Turned (fun q => q = D ∨ wG.heap.size ≤ q) wG W)
              (fun _ _ _ _ => False) ?hI (fun _ _ _ _ _ _ h _ => h) ?h0 ?hround ?hdone (fun _ _ _ _ _ _ _ _ _ h _ => h.elim)
             case hI =>
              rintro s' i A' B' hs' ⟨N', h1, h2, h3⟩ ht
              have := HTMG.out.next.lt
              exact ⟨N', h1.turned ht (by omega), h2, h3.trans (ht.mono fun q _ hq => .inr hq.1)⟩
             case h0 =>
              intro s' W1 hs' hs1 hb
              exact ⟨N, HTMG.out.next.ext hb, fun y => by simp, Turned.of_below hb⟩
             case hround =>
              rintro l s' i W args hs' hsW hi ⟨N', h1, h2, h3⟩ ⟨v, rfl, hv⟩
              have HN1 := Lib.hid h1
              have HN2 := Lib.hid h2
              have HTG := Lib.hid h3
              have HV := Lib.hid hv
              obtain ⟨av, cv0, hva⟩ := hv.ints.form
              subst hva
              obtain ⟨PI, hPI⟩ : ∃ q, rowAt (permsOf (lotAt f.lots k)) i = q := ⟨_, rfl⟩
              have HPN2 := HPLN.out i hi
              rw [hPI] at HPN2
              have HPI2 := Lib.hid hPI
              have hPI' : (permsOf (lotAt f.lots k)).getD i [] = PI := hPI
              rw [hPI'] at HV ⊢
              rw [HPN2.1] at HV ⊢
              clear h1 h2 h3 hv hPI hPI' 
              gi_wp2
              refine ⟨Below.refl _ _, fun W2 ht => ?_⟩
              have HZ2 : Hid (W2.heap.size = W2.heap.size) := Lib.hid rfl
              have HW2 : Hid (Turned (fun q => q = D ∨ wG.heap.size ≤ q) wG W2) := Lib.hid (HTG.out.trans (ht.mono fun q _ hq => .inr hq.1))
              have HS2 : Hid (s' ≤ W2.heap.size) := Lib.hid (by have := ht.size; omega)
              have HSW : Hid (wG.heap.size + 2 ≤ s') := Lib.hid hs'
              have HG2 : Hid (wG.heap.size + 2 ≤ W2.heap.size) := Lib.hid (by have := HS2.out; omega)
              have HN3 : Hid (KMap enc8 W2 D (keys8 N')) := Lib.hid (HN1.out.turned ht (by have := HTMG.out.next.lt; omega))
              have HV2 : Hid (IsIntsX (fun q => q < B ∨ wG.heap.size + 2 ≤ q) W2 (.slice av m cv0) PI) := Lib.hid (HV.out.turned ht (fun q hq h => by have := HTWG.out.size; omega))
              have HP2 : Hid (Row8 W2 P0 x.1) := Lib.hid (HTPG.out.turned HW2.out (by omega))
              have HC2 : Hid (Cell1 W2 P2 (.slice (some ⟨P1, 0, none⟩) m m)) := Lib.hid (HTCG.out.turned HW2.out (by omega))
              have HS3 : Hid (Cell1 W2 bs (.int .i64 (beforeI f k))) := Lib.hid (HSPG.out.turned HW2.out (by have := HSPG.out.lt; omega))
              have HD2 : Hid (Cell1 W2 (D + 1 + 1) (.map (some D))) := Lib.hid (HTMG.out.cell.turned HW2.out (by have := HTMG.out.cell.lt; omega))
              clear ht HN1 HV HTG
              have c2 := HC2.out.cell
              have HC2a := Lib.hid (HC2.out.alloc (.cells arr 78))
              have c3 := HC2a.out.cell
              gi_wp2_with (first
               | ((with_reducible refine wpListIn_load8 (.tmp 12) HP2.out ?_ ?_ ?_ ?_); rotate_left; rfl; rfl; rfl; rw [HAR.out])
               | ((with_reducible refine wpListIn_store8 (.tmp 20) (.tmp 108) HX8.out ?_ ?_ ?_ ?_ ?_); rotate_left; rfl; rfl; rfl; (rw [HAR.out]; rfl); rw [HAR.out]))
              obtain ⟨w3q, hw3q⟩ : ∃ W, W2.alloc (.cells arr 78) = W := ⟨_, rfl⟩
              obtain ⟨R0, hR0⟩ : ∃ q, W2.heap.size = q := ⟨_, rfl⟩
              have HRN : Hid (Row8 w3q R0 x.1) := Lib.hid (by
               have h1 := Row8.new W2 x.2.1
               rw [HAR.out, hw3q, hR0] at h1
               exact h1)
              have HB3q : Hid (Below R0 W2 w3q) := Lib.hid (by rw [← hw3q, ← hR0]; exact box_below' _ _)
              have HRG : Hid (wG.heap.size + 2 ≤ R0) := Lib.hid (by rw [← hR0]; exact HG2.out)
              have HSR0 : Hid (s' ≤ R0) := Lib.hid (by rw [← hR0]; exact HS2.out)
              have hR3 : P2 < R0 := by have := HRG.out; omega
              have HR9 := Lib.hid hR0
              rw [hw3q, hR0]
              clear hw3q hR0 c2 c3 HC2a
              gi_loopw [111] (fun vi wr => ∃ i2 : Nat, i2 ≤ m ∧ vi = .int .i64 i2 ∧ Row8 wr R0 (padL (putsL (beforeI f k) (sv.take i2) PI p)) ∧ w3q.grownBy wr (some R0)) (fun vi _ => m - (intOf vi).toNat)
              case atStart => exact ⟨0, by omega, rfl, by rw [List.take_zero, putsL_nil, ← HXP.out]; exact HRN.out, grown_refl _ _⟩
              case round =>
               obtain ⟨i2, hi2, rfl, hrow, hg⟩ := hrel
               have HRW9 := Lib.hid hrow
               have HBR : Hid (Below R0 W2 wr) := Lib.hid (HB3q.out.grown hg (by have := HR9.out; have := HB3q.out.size; omega) (fun q hq => by cases hq; exact Nat.le_refl _))
               have HG9 := Lib.hid hg
               clear hrow hg HRN
               by_cases hil : i2 < m
               ·have hil'' : decide ((i2 : Int) < m) = true := decide_eq_true (by omega)
                obtain ⟨bv, ov, cvx, ⟨av', hav, _, _, hal⟩, _, _, hvc⟩ := HV2.out.ints
                simp only [Value.slice.injEq] at hav
                obtain ⟨rfl, hav2, rfl⟩ := hav
                have HPN3 := HPN2.1
                obtain rfl : av = some ⟨bv, ov, none⟩ := by rcases hal with h | h; exact h; omega
                obtain ⟨j, hj, hjs⟩ := HSVB.out i2 hil
                have e1a := HTOG.out.cellAt hsvl.symm (j := i2) (by omega)
                rw [hj] at e1a
                have e1 := (HBR.out.cell (p := ⟨P1, i2, none⟩) (by show P1 < R0; omega)).trans ((HW2.out.cell (p := ⟨P1, i2, none⟩) (by show P1 < wG.heap.size; omega) (by show ¬ (P1 = D ∨ wG.heap.size ≤ P1); omega)).trans e1a)
                have HE1R : Hid (bs < wr.heap.size ∧ wr.cell? ⟨bs, 0, none⟩ = some (.int .i64 (beforeI f k))) := Lib.hid (by
                 have h1 := HS3.out.below HBR.out (by have := HSPG.out.lt; omega)
                 exact ⟨h1.lt, h1.cell⟩)
                have hq := hvc i2 (by omega)
                have HE2R : Hid (bv < wr.heap.size ∧ wr.cell? ⟨bv, ov + i2, none⟩ = some (.int .i64 (nth PI i2))) := Lib.hid (by
                 have h1 := hq.1
                 exact ⟨Nat.lt_of_lt_of_le h1 (by have := HBR.out.size; have := HR9.out; omega), (HBR.out.cell (p := ⟨bv, ov + i2, none⟩) (by show bv < R0; have := HR9.out; omega)).trans hq.2⟩)
                have HPIB : Hid (0 ≤ nth PI i2 ∧ nth PI i2 ≤ 8) := Lib.hid (HPN2.2 _ (nth_mem' (by omega)))
                have HORR : Hid (R0 < wr.heap.size ∧ (∃ u, wr.cell? ⟨R0, j, none⟩ = some (.int .i64 u)) ∧ wr.frozen? ⟨R0, j, none⟩ = false) := Lib.hid ⟨HRW9.out.lt, ⟨_, HRW9.out.cell (j := j) (by omega)⟩, HRW9.out.free (j := j)⟩
                have HSU : Hid ((padL (putsL (beforeI f k) (sv.take i2) PI p)).set j (beforeI f k + nth PI i2) = padL (putsL (beforeI f k) (sv.take (i2 + 1)) PI p)) := Lib.hid (by
                 rw [padL_set _ (by rw [putsL_len]; omega), putsL_succ HSVN.out (by omega) hj (by omega)])
                have HST := Lib.hid (fun W (hb : Below wr.heap.size wr W) => (HRW9.out.ext hb).set j (beforeI f k + nth PI i2))
                rw [HSU.out] at HST
                clear hj hq hvc hal e1a hav2 HPN3
                gi_wp2
                obtain ⟨V, hV⟩ : ∃ V : List (Option Value), V = [some (.int .i64 (j : Int)), some (.int .i64 (beforeI f k)), some (.slice (some ⟨bv, ov, none⟩) m cv0), some (.int .i64 (i2 : Int)), some (.pointer (some ⟨bv, ov + i2, none⟩)), some (.int .i64 (nth PI i2)), some (.int .i64 (beforeI f k + nth PI i2)), some (.pointer (some ⟨R0, j, none⟩)), none] := ⟨_, rfl⟩
                have HVV := Lib.hid hV
                clear hV
                refine wpIn_region_V [some 116, some 117, some 118, some 119, some 120, some 121, some 122, some 123, none] (fun L w' xs => ValsAt V L xs ∧ ((L 8 = true → L 1 = true ∧ L 5 = true) ∧ (L 8 = false → Below wr.heap.size wr w') ∧ (L 8 = true → ∃ w0, Below wr.heap.size wr w0 ∧ w' = w0.setCell ⟨R0, j, none⟩ (.int .i64 (beforeI f k + nth PI i2))))) (by kernel_rfl) (by kernel_rfl) (by rfl) (by rfl) (by rfl) ?_ ?_ ?_
                focus
                 exact fun xs => ⟨ValsAt.none _ _, (fun h => by cases h), (fun _ => below_drewN (Below.refl _ wr) 1), (fun h => by cases h)⟩
                focus
                 refine ⟨?_, ?_, ?_, ?_, ?_, ?_, ?_, ?_, ?_, trivial⟩
                 all_goals
                  intro L a' w' xs hi hd hf hJ K hK
                  obtain ⟨hv, h0, h1, h2⟩ := hJ
                  have HF := Lib.hid hf
                  have HVA := Lib.hid hv
                  have HLI := Lib.hid hi
                  clear hf hv hi
                 focus
                  clear hd
                  obtain ⟨ρ, hρ⟩ : ∃ ρ, a'.eval = ρ := ⟨_, rfl⟩
                  have hcst := cstE hρ
                  have l22 : ρ (.tmp 22) = .int .i64 (j : Int) := (congrFun hρ (.tmp 22)).symm.trans (HF.out.lo 22 rfl)
                  rw [if_pos (by simp [Region.wanted])]
                  unfold Oper.wpIn
                  refine ⟨fun _ _ => trivial, ?_⟩
                  rw [Oper.semAt_plain (Fence.wide.inRound l) _ _ (by intro c hc; cases hc)]
                  rw [hρ]
                  clear hρ
                  go_simp
                  exact hK.out _ _ ⟨HVA.out.set (i := 0) (by rw [HVV.out]; rfl), (by simp only [upd_ne (L := L) (show (1 : Nat) ≠ 0 by decide), upd_ne (L := L) (show (5 : Nat) ≠ 0 by decide), upd_ne (L := L) (show (8 : Nat) ≠ 0 by decide)]; exact h0), (by simp only [upd_ne (L := L) (show (1 : Nat) ≠ 0 by decide), upd_ne (L := L) (show (5 : Nat) ≠ 0 by decide), upd_ne (L := L) (show (8 : Nat) ≠ 0 by decide)]; exact h1), (by simp only [upd_ne (L := L) (show (1 : Nat) ≠ 0 by decide), upd_ne (L := L) (show (5 : Nat) ≠ 0 by decide), upd_ne (L := L) (show (8 : Nat) ≠ 0 by decide)]; exact h2)⟩
                 focus
                  clear hd
                  obtain ⟨ρ, hρ⟩ : ∃ ρ, a'.eval = ρ := ⟨_, rfl⟩
                  have hcst := cstE hρ
                  have l7 : ρ (.tmp 7) = .pointer (some ⟨bs, 0, none⟩) := (congrFun hρ (.tmp 7)).symm.trans (HF.out.lo 7 rfl)
                  have h8 : L 8 = false := by
                   cases h : L 8 with
                   | false => rfl
                   | true => exact absurd ((h0 h).1.symm.trans HLI.out) (by decide)
                  have hb := h1 h8
                  have e3 := (hb.cell (p := ⟨bs, 0, none⟩) HE1R.out.1).trans HE1R.out.2
                  rw [if_pos (by simp [Region.wanted])]
                  unfold Oper.wpIn
                  refine ⟨fun _ _ => trivial, ?_⟩
                  rw [Oper.semAt_plain (Fence.wide.inRound l) _ _ (by intro c hc; cases hc)]
                  rw [hρ]
                  clear hρ
                  go_simp
                  exact hK.out _ _ ⟨HVA.out.set (i := 1) (by rw [HVV.out]; rfl), (by simp only [upd_ne (L := L) (show (5 : Nat) ≠ 1 by decide), upd_ne (L := L) (show (8 : Nat) ≠ 1 by decide), upd_self]; exact fun h => absurd ((h0 h).1.symm.trans HLI.out) (by decide)), (by simp only [upd_ne (L := L) (show (5 : Nat) ≠ 1 by decide), upd_ne (L := L) (show (8 : Nat) ≠ 1 by decide), upd_self]; exact h1), (by simp only [upd_ne (L := L) (show (5 : Nat) ≠ 1 by decide), upd_ne (L := L) (show (8 : Nat) ≠ 1 by decide), upd_self]; exact h2)⟩
                 focus
                  clear hd
                  obtain ⟨ρ, hρ⟩ : ∃ ρ, a'.eval = ρ := ⟨_, rfl⟩
                  have hcst := cstE hρ
                  have l19 : ρ (.tmp 19) = .slice (some ⟨bv, ov, none⟩) m cv0 := (congrFun hρ (.tmp 19)).symm.trans (HF.out.lo 19 rfl)
                  rw [if_pos (by simp [Region.wanted])]
                  unfold Oper.wpIn
                  refine ⟨fun _ _ => trivial, ?_⟩
                  rw [Oper.semAt_plain (Fence.wide.inRound l) _ _ (by intro c hc; cases hc)]
                  rw [hρ]
                  clear hρ
                  go_simp
                  exact hK.out _ _ ⟨HVA.out.set (i := 2) (by rw [HVV.out]; rfl), (by simp only [upd_ne (L := L) (show (1 : Nat) ≠ 2 by decide), upd_ne (L := L) (show (5 : Nat) ≠ 2 by decide), upd_ne (L := L) (show (8 : Nat) ≠ 2 by decide)]; exact h0), (by simp only [upd_ne (L := L) (show (1 : Nat) ≠ 2 by decide), upd_ne (L := L) (show (5 : Nat) ≠ 2 by decide), upd_ne (L := L) (show (8 : Nat) ≠ 2 by decide)]; exact h1), (by simp only [upd_ne (L := L) (show (1 : Nat) ≠ 2 by decide), upd_ne (L := L) (show (5 : Nat) ≠ 2 by decide), upd_ne (L := L) (show (8 : Nat) ≠ 2 by decide)]; exact h2)⟩
                 focus
                  clear hd
                  obtain ⟨ρ, hρ⟩ : ∃ ρ, a'.eval = ρ := ⟨_, rfl⟩
                  have hcst := cstE hρ
                  have l21 : ρ (.tmp 21) = .int .i64 (i2 : Int) := (congrFun hρ (.tmp 21)).symm.trans (HF.out.lo 21 rfl)
                  rw [if_pos (by simp [Region.wanted])]
                  unfold Oper.wpIn
                  refine ⟨fun _ _ => trivial, ?_⟩
                  rw [Oper.semAt_plain (Fence.wide.inRound l) _ _ (by intro c hc; cases hc)]
                  rw [hρ]
                  clear hρ
                  go_simp
                  exact hK.out _ _ ⟨HVA.out.set (i := 3) (by rw [HVV.out]; rfl), (by simp only [upd_ne (L := L) (show (1 : Nat) ≠ 3 by decide), upd_ne (L := L) (show (5 : Nat) ≠ 3 by decide), upd_ne (L := L) (show (8 : Nat) ≠ 3 by decide)]; exact h0), (by simp only [upd_ne (L := L) (show (1 : Nat) ≠ 3 by decide), upd_ne (L := L) (show (5 : Nat) ≠ 3 by decide), upd_ne (L := L) (show (8 : Nat) ≠ 3 by decide)]; exact h1), (by simp only [upd_ne (L := L) (show (1 : Nat) ≠ 3 by decide), upd_ne (L := L) (show (5 : Nat) ≠ 3 by decide), upd_ne (L := L) (show (8 : Nat) ≠ 3 by decide)]; exact h2)⟩
                 focus
                  obtain ⟨d2, d3, _⟩ := hd
                  obtain ⟨ρ, hρ⟩ : ∃ ρ, a'.eval = ρ := ⟨_, rfl⟩
                  have hcst := cstE hρ
                  have v2 : ρ (.tmp 118) = .slice (some ⟨bv, ov, none⟩) m cv0 := (congrFun hρ (.tmp 118)).symm.trans ((HF.out.ev 2 rfl d2).trans (HVA.out 2 _ (by rw [HVV.out]; rfl) d2))
                  have v3 : ρ (.tmp 119) = .int .i64 (i2 : Int) := (congrFun hρ (.tmp 119)).symm.trans ((HF.out.ev 3 rfl d3).trans (HVA.out 3 _ (by rw [HVV.out]; rfl) d3))
                  have e4 : (i2 : Int) < m := by omega
                  rw [if_pos (by simp [Region.wanted])]
                  unfold Oper.wpIn
                  refine ⟨fun _ _ => trivial, ?_⟩
                  rw [Oper.semAt_plain (Fence.wide.inRound l) _ _ (by intro c hc; cases hc)]
                  rw [hρ]
                  clear hρ
                  go_simp
                  exact hK.out _ _ ⟨HVA.out.set (i := 4) (by rw [HVV.out]; rfl), (by simp only [upd_ne (L := L) (show (1 : Nat) ≠ 4 by decide), upd_ne (L := L) (show (5 : Nat) ≠ 4 by decide), upd_ne (L := L) (show (8 : Nat) ≠ 4 by decide)]; exact h0), (by simp only [upd_ne (L := L) (show (1 : Nat) ≠ 4 by decide), upd_ne (L := L) (show (5 : Nat) ≠ 4 by decide), upd_ne (L := L) (show (8 : Nat) ≠ 4 by decide)]; exact h1), (by simp only [upd_ne (L := L) (show (1 : Nat) ≠ 4 by decide), upd_ne (L := L) (show (5 : Nat) ≠ 4 by decide), upd_ne (L := L) (show (8 : Nat) ≠ 4 by decide)]; exact h2)⟩
                 focus
                  obtain ⟨d4, _⟩ := hd
                  obtain ⟨ρ, hρ⟩ : ∃ ρ, a'.eval = ρ := ⟨_, rfl⟩
                  have hcst := cstE hρ
                  have v4 : ρ (.tmp 120) = .pointer (some ⟨bv, ov + i2, none⟩) := (congrFun hρ (.tmp 120)).symm.trans ((HF.out.ev 4 rfl d4).trans (HVA.out 4 _ (by rw [HVV.out]; rfl) d4))
                  have h8 : L 8 = false := by
                   cases h : L 8 with
                   | false => rfl
                   | true => exact absurd ((h0 h).2.symm.trans HLI.out) (by decide)
                  have hb := h1 h8
                  have e3 := (hb.cell (p := ⟨bv, ov + i2, none⟩) HE2R.out.1).trans HE2R.out.2
                  rw [if_pos (by simp [Region.wanted])]
                  unfold Oper.wpIn
                  refine ⟨fun _ _ => trivial, ?_⟩
                  rw [Oper.semAt_plain (Fence.wide.inRound l) _ _ (by intro c hc; cases hc)]
                  rw [hρ]
                  clear hρ
                  go_simp
                  exact hK.out _ _ ⟨HVA.out.set (i := 5) (by rw [HVV.out]; rfl), (by simp only [upd_ne (L := L) (show (1 : Nat) ≠ 5 by decide), upd_ne (L := L) (show (8 : Nat) ≠ 5 by decide), upd_self]; exact fun h => absurd ((h0 h).2.symm.trans HLI.out) (by decide)), (by simp only [upd_ne (L := L) (show (1 : Nat) ≠ 5 by decide), upd_ne (L := L) (show (8 : Nat) ≠ 5 by decide), upd_self]; exact h1), (by simp only [upd_ne (L := L) (show (1 : Nat) ≠ 5 by decide), upd_ne (L := L) (show (8 : Nat) ≠ 5 by decide), upd_self]; exact h2)⟩
                 focus
                  obtain ⟨d1, d5, _⟩ := hd
                  obtain ⟨ρ, hρ⟩ : ∃ ρ, a'.eval = ρ := ⟨_, rfl⟩
                  have hcst := cstE hρ
                  have v1 : ρ (.tmp 117) = .int .i64 (beforeI f k) := (congrFun hρ (.tmp 117)).symm.trans ((HF.out.ev 1 rfl d1).trans (HVA.out 1 _ (by rw [HVV.out]; rfl) d1))
                  have v5 : ρ (.tmp 121) = .int .i64 (nth PI i2) := (congrFun hρ (.tmp 121)).symm.trans ((HF.out.ev 5 rfl d5).trans (HVA.out 5 _ (by rw [HVV.out]; rfl) d5))
                  have e7 : IntKind.i64.wrap (beforeI f k + nth PI i2) = beforeI f k + nth PI i2 := by have h1 := HPIB.out; rw [IntWalk.i64_in _ (by omega)]
                  rw [if_pos (by simp [Region.wanted])]
                  unfold Oper.wpIn
                  refine ⟨fun _ _ => trivial, ?_⟩
                  rw [Oper.semAt_plain (Fence.wide.inRound l) _ _ (by intro c hc; cases hc)]
                  rw [hρ]
                  clear hρ
                  go_simp
                  exact hK.out _ _ ⟨HVA.out.set (i := 6) (by rw [HVV.out]; rfl), (by simp only [upd_ne (L := L) (show (1 : Nat) ≠ 6 by decide), upd_ne (L := L) (show (5 : Nat) ≠ 6 by decide), upd_ne (L := L) (show (8 : Nat) ≠ 6 by decide)]; exact h0), (by simp only [upd_ne (L := L) (show (1 : Nat) ≠ 6 by decide), upd_ne (L := L) (show (5 : Nat) ≠ 6 by decide), upd_ne (L := L) (show (8 : Nat) ≠ 6 by decide)]; exact h1), (by simp only [upd_ne (L := L) (show (1 : Nat) ≠ 6 by decide), upd_ne (L := L) (show (5 : Nat) ≠ 6 by decide), upd_ne (L := L) (show (8 : Nat) ≠ 6 by decide)]; exact h2)⟩
                 focus
                  obtain ⟨d0, _, d1, d2, d3, d4, d5, d6, _⟩ := hd
                  obtain ⟨ρ, hρ⟩ : ∃ ρ, a'.eval = ρ := ⟨_, rfl⟩
                  have hcst := cstE hρ
                  have l20 : ρ (.tmp 20) = .pointer (some ⟨R0, 0, none⟩) := (congrFun hρ (.tmp 20)).symm.trans (HF.out.lo 20 rfl)
                  have v0 : ρ (.tmp 116) = .int .i64 (j : Int) := (congrFun hρ (.tmp 116)).symm.trans ((HF.out.ev 0 rfl d0).trans (HVA.out 0 _ (by rw [HVV.out]; rfl) d0))
                  have e3 : (j : Int) < 8 := by omega
                  rw [if_pos (by simp [Region.wanted])]
                  unfold Oper.wpIn
                  refine ⟨fun _ _ => trivial, ?_⟩
                  rw [Oper.semAt_plain (Fence.wide.inRound l) _ _ (by intro c hc; cases hc)]
                  rw [hρ]
                  clear hρ
                  go_simp
                  exact hK.out _ _ ⟨HVA.out.set (i := 7) (by rw [HVV.out]; rfl), (by simp only [upd_ne (L := L) (show (1 : Nat) ≠ 7 by decide), upd_ne (L := L) (show (5 : Nat) ≠ 7 by decide), upd_ne (L := L) (show (8 : Nat) ≠ 7 by decide)]; exact h0), (by simp only [upd_ne (L := L) (show (1 : Nat) ≠ 7 by decide), upd_ne (L := L) (show (5 : Nat) ≠ 7 by decide), upd_ne (L := L) (show (8 : Nat) ≠ 7 by decide)]; exact h1), (by simp only [upd_ne (L := L) (show (1 : Nat) ≠ 7 by decide), upd_ne (L := L) (show (5 : Nat) ≠ 7 by decide), upd_ne (L := L) (show (8 : Nat) ≠ 7 by decide)]; exact h2)⟩
                 focus
                  obtain ⟨d7, d6, d0, d1, d2, d3, d4, d5, _, _⟩ := hd
                  obtain ⟨ρ, hρ⟩ : ∃ ρ, a'.eval = ρ := ⟨_, rfl⟩
                  have hcst := cstE hρ
                  have v7 : ρ (.tmp 123) = .pointer (some ⟨R0, j, none⟩) := (congrFun hρ (.tmp 123)).symm.trans ((HF.out.ev 7 rfl d7).trans (HVA.out 7 _ (by rw [HVV.out]; rfl) d7))
                  have v6 : ρ (.tmp 122) = .int .i64 (beforeI f k + nth PI i2) := (congrFun hρ (.tmp 122)).symm.trans ((HF.out.ev 6 rfl d6).trans (HVA.out 6 _ (by rw [HVV.out]; rfl) d6))
                  rw [if_pos (by simp [Region.wanted])]
                  unfold Oper.wpIn
                  refine ⟨fun _ _ => trivial, ?_⟩
                  rw [Oper.semAt_plain (Fence.wide.inRound l) _ _ (by intro c hc; cases hc)]
                  rw [hρ]
                  clear hρ
                  have hb := h1 HLI.out
                  obtain ⟨uu, huu⟩ := HORR.out.2.1
                  have e3 := (hb.cell (p := ⟨R0, j, none⟩) HORR.out.1).trans huu
                  have e4 := (hb.frozen (p := ⟨R0, j, none⟩) HORR.out.1).trans HORR.out.2.2
                  have HBB9 := Lib.hid hb
                  have HD1 := Lib.hid d1
                  have HD5 := Lib.hid d5
                  clear h0 h1 h2 hb
                  go_simp
                  exact hK.out undef _ ⟨HVA.out.free (i := 8) (by rw [HVV.out]; rfl) _, (by simp only [upd_ne (L := L) (show (1 : Nat) ≠ 8 by decide), upd_ne (L := L) (show (5 : Nat) ≠ 8 by decide), upd_self]; exact fun _ => ⟨HD1.out, HD5.out⟩), (by simp only [upd_ne (L := L) (show (1 : Nat) ≠ 8 by decide), upd_ne (L := L) (show (5 : Nat) ≠ 8 by decide), upd_self]; exact fun h => by cases h), (by simp only [upd_ne (L := L) (show (1 : Nat) ≠ 8 by decide), upd_ne (L := L) (show (5 : Nat) ≠ 8 by decide), upd_self]; exact fun _ => ⟨_, HBB9.out, rfl⟩)⟩
                focus
                 intro L w' xs hL hJ
                 obtain ⟨hv, h0, h1, h2⟩ := hJ
                 have e0 : xs 0 = .int .i64 (j : Int) := hv 0 _ (by rw [HVV.out]; rfl) (hL 0 (by decide))
                 have e1 : xs 1 = .int .i64 (beforeI f k) := hv 1 _ (by rw [HVV.out]; rfl) (hL 1 (by decide))
                 have e2 : xs 2 = .slice (some ⟨bv, ov, none⟩) m cv0 := hv 2 _ (by rw [HVV.out]; rfl) (hL 2 (by decide))
                 have e3 : xs 3 = .int .i64 (i2 : Int) := hv 3 _ (by rw [HVV.out]; rfl) (hL 3 (by decide))
                 have e4 : xs 4 = .pointer (some ⟨bv, ov + i2, none⟩) := hv 4 _ (by rw [HVV.out]; rfl) (hL 4 (by decide))
                 have e5 : xs 5 = .int .i64 (nth PI i2) := hv 5 _ (by rw [HVV.out]; rfl) (hL 5 (by decide))
                 have e6 : xs 6 = .int .i64 (beforeI f k + nth PI i2) := hv 6 _ (by rw [HVV.out]; rfl) (hL 6 (by decide))
                 have e7 : xs 7 = .pointer (some ⟨R0, j, none⟩) := hv 7 _ (by rw [HVV.out]; rfl) (hL 7 (by decide))
                 simp only [putGo, Act.put, List.setIfInBounds_toArray, List.set_cons_zero, List.set_cons_succ, e0, e1, e2, e3, e4, e5, e6, e7]
                 clear hv e0 e1 e2 e3 e4 e5 e6 e7
                obtain ⟨w0, hb0, hw0⟩ := h2 (hL 8 (by decide))
                rw [hw0]
                have HB0 := Lib.hid hb0
                clear h0 h1 h2 hL hw0 hb0
                gi_wp2
                go_roundw
                case rel => exact ⟨i2 + 1, by omega, by go_num, HST.out w0 HB0.out, grown_trans HG9.out (grown_trans (grown_below HB0.out (some R0)) (grown_setCell w0 ⟨R0, j, none⟩ _))⟩
                case measure => simp [intOf]; omega
               ·have hil'' : decide ((i2 : Int) < m) = false := decide_eq_false (by omega)
                have hie : i2 = m := by omega
                have HRF2 : Hid (Row8 wr R0 (padL (putsL (beforeI f k) sv PI p))) := Lib.hid (by
                 have h1 := HRW9.out
                 rw [hie, ← hsvl, List.take_length] at h1
                 exact h1)
                clear HRW9
                have HPIM : Hid (PI ∈ permsOf (lotAt f.lots k)) := Lib.hid (by rw [← HPI2.out, rowAt_get hi]; exact List.getElem_mem hi)
                have HQO2 : Hid (putsL (beforeI f k) sv PI p ∈ asgTo f (k + 1)) := Lib.hid (by
                 obtain ⟨π, hπ, he⟩ := List.mem_map.1 ((HTS.out _).2 ⟨PI, HPIM.out, rfl⟩)
                 exact mem_asgTo.2 ⟨p, HPM.out, π, hπ, he.symm⟩)
                obtain ⟨y2, hy2⟩ := asg_vals h0 h8 HLK1.out (by have h1 := beforeI_mono (f := f) (show k + 1 ≤ f.lots.length by omega); have := H50.out; omega) _ HQO2.out
                have HY2 := Lib.hid hy2
                rw [← hy2] at HRF2
                have HNr := Lib.hid (HN3.out.below HBR.out (by omega))
                have HDr := Lib.hid (HD2.out.below HBR.out (by omega))
                have c9 := HDr.out.cell
                clear hy2
                gi_wp2_with (first
                 | ((with_reducible refine wpListIn_load8 (.tmp 20) HRF2.out ?_ ?_ ?_ ?_); rotate_left; rfl; rfl; rfl)
                 | (gi_at_mapUpdate; refine wpListIn_update_k encK8 rfl (.tmp 125) (.tmp 126) (.const (.bool true)) rfl Tryz.underlying79 rfl HNr.out (x := y2) (v := .bool true) rfl rfl ?_; intro wU hmU hgU hzU; rw [kset_keys8] at hmU; have HMU := Lib.hid hmU; have HGU := Lib.hid hgU; clear hmU hgU hzU))
                have hTU : Turned (fun q => q = D ∨ s' ≤ q) W2 wU := (Turned.mono (X := fun q => q = D ∨ s' ≤ q) ⟨HBR.out.os, HBR.out.tape, HBR.out.output, HBR.out.size, fun q hq hx => HBR.out.block q (by have := HR9.out; omega)⟩ (fun q _ h => h)).trans (Turned.of_grown HGU.out (fun q e => by cases e; exact .inl rfl))
                refine ⟨hTU, addK N' y2, HMU.out, fun yy => ?_, HW2.out.trans (hTU.mono fun q hq h => ?_)⟩
                ·rw [mem_addK, HN2.out yy]
                 constructor
                 ·rintro (rfl | h | ⟨j, hj, e⟩)
                  ·exact .inr ⟨i, by omega, by rw [HPI2.out]; exact HY2.out⟩
                  ·exact .inl h
                  ·exact .inr ⟨j, by omega, e⟩
                 ·rintro (h | ⟨j, hj, e⟩)
                  ·exact .inr (.inl h)
                  ·by_cases hji : j = i
                   ·subst hji
                    rw [HPI2.out] at e
                    exact .inl (Subtype.ext (e.trans HY2.out.symm))
                   ·exact .inr (.inr ⟨j, by omega, e⟩)
                ·rcases h with h | h
                 ·exact .inl h
                 ·exact .inr (by have := HRG.out; have := HSW.out; omega)
             case hdone =>
              rintro d s' W hd hds hsW ⟨N', h1, h2, h3⟩ hk
              have HN1 := Lib.hid h1
              have HMF : Hid (StMem wD w.heap.size D bm ri S (A ++ Bl) N' MM rs2 W) := Lib.hid (HTMG.out.more h1 h3 HRI.out (by omega))
              have HNF : Hid (∀ y : K8, y ∈ N' ↔ y ∈ N ∨ ∃ q ∈ outsL f k p, y.1 = padL q) := Lib.hid (fun y => by
               rw [h2 y]
               constructor
               ·rintro (h | ⟨j, hj, e⟩)
                ·exact .inl h
                ·exact .inr ⟨_, (HTS.out _).2 ⟨_, by rw [rowAt_get hj]; exact List.getElem_mem hj, rfl⟩, e⟩
               ·rintro (h | ⟨q, hq, e⟩)
                ·exact .inl h
                ·obtain ⟨π, hπ, rfl⟩ := (HTS.out _).1 hq
                 obtain ⟨j, hj, rfl⟩ := List.mem_iff_getElem.1 hπ
                 exact .inr ⟨j, hj, by rw [rowAt_get hj]; exact e⟩)
              have HPF : Hid (StP f k ((A ++ Bl).map fun p => p.1) N' MM) := Lib.hid (by
               rw [HLM.out]
               exact HPL.out.full HXP.out HPM.out HNF.out HTMET.out)
              have HMKS : Hid (MarksOk w.heap.size (d :: rs2) W) := Lib.hid (HMF.out.marks.cons (by have := HTWG.out.size; omega) hk (fun h => by have := HTMG.out.marks.lt d h; omega))
              have HWF : Hid (Below w.heap.size w W) := Lib.hid (HTWG.out.trans (h3.below HTWG.out.size (fun q hq h => by omega)))
              have hln := h1.len (R := 3) Tryz.underlying79
              rw [keys8_len] at hln
              have c10 := HMF.out.cell.cell
              have HND : Hid N'.Nodup := Lib.hid (keys8_nodup h1)
              have HHL : Hid (N'.length ≤ (asgTo f (k + 1)).length) := Lib.hid (HPF.out.le HND.out)
              clear h1 h2 h3 hk
              by_cases hbig : 5040 < N'.length
              ·have hbig' : decide (5040 < (N'.length : Int)) = true := decide_eq_true (by omega)
               have HE : Hid (allE f = 2) := Lib.hid (by rw [HE1.out, many_at (by have := HHL.out; omega) hlt]; rfl)
               have HR : Hid (allR f = []) := Lib.hid (by rw [HRR.out, HE.out]; rfl)
               go_wp2
               refine leaves_marks (d :: rs2) _ HMKS.out fun W' ht => ?_
               refine ⟨.tuple #[.slice none 0 0, .int .i64 2], by simp [results, Tryz.results19, go_sem], .slice none 0 0, by rw [HE.out], ?_, ?_⟩
               ·rw [HR.out]; exact OwnMat.nil _ _
               ·exact HWF.out.trans (ht.below HWF.out.size (fun q hq hm => by have := (HMKS.out.at_ q hm).1; omega))
              ·have hbig' : decide (5040 < (N'.length : Int)) = false := decide_eq_false (by omega)
               have HFW : Hid (N'.length ≤ 5040) := Lib.hid (by omega)
               go_wp2
               refine ⟨?_, ?_⟩
               focus
                refine ⟨d :: rs2, ?_⟩
                repeat apply Exists.intro
                refine ⟨?_, rfl⟩
                exact ⟨A ++ Bl, N', MM, ⟨HMF.out.iter, HMF.out.next, HMF.out.met, HMF.out.cell, HMF.out.below, HMKS.out⟩, HPF.out, HFW.out⟩
               rw [HMF.out.iter.count, HLFT.out, HHW.out]
               exact Nat.lt_succ_self _
         ·have hbf : 0 ≤ beforeI f k ∧ beforeI f k ≤ 1000000 := by have h1 := beforeI_mono (f := f) (show k ≤ f.lots.length by omega); have h2 := beforeI_mono (f := f) (show 0 ≤ k by omega); have h3 : beforeI f 0 = f.senders := rfl; have := H50.out; omega
          have hbf1 := hbf.1
          have hbf2 := hbf.2
          clear hbf
          obtain ⟨wM, hwM⟩ : ∃ W, wE = W := ⟨_, rfl⟩
          rw [hwM] at HME HPRe HOCe HOE HLBe ⊢
          have HTM := HME
          have HTP := HPRe
          have HTC := HOCe
          have HTO := HOE
          have HLBM := HLBe
          have HTW : Hid (Below w.heap.size w wM) := Lib.hid (by rw [← hwM]; exact HB3.out.trans (HEE.out.mono HB3.out.size))
          have hsvl := hofl
          have HSVN : Hid OF.Nodup := Lib.hid (by rw [← HOFD.out]; exact ofL_nodup HIND.out HPI.out)
          have HSVB := Lib.hid (fun (i : Nat) (hi : i < m) => show ∃ j : Nat, nth OF i = (j : Int) ∧ j < s by
           have h2 := HOFB.out i hi
           exact ⟨(nth OF i).toNat, by omega, by omega⟩)
          have HTS := Lib.hid (fun q => outs_known HLOT.out (asg_all h0 k HLK.out p HPM.out) q)
          rw [HOFD.out] at HTS
          have HTMET : Hid (∀ z ∈ M, z ∈ M ∨ ∃ s' : List Int, s'.Perm (ofL p (lotAt f.lots k).ins) ∧ z.1 = padL (putsL (beforeI f k) s' (idL (lotAt f.lots k).ins.length) p)) := Lib.hid (fun z hz => .inl hz)
          clear hwM
          clear zy ry
          obtain ⟨zy, ry⟩ := HLBM.out
          have HLOTM : Hid (IsLot B wM (.slice ai m ci) (.bool true) (.slice ap (lotAt f.lots k).perm.length cp) (lotAt f.lots k)) := Lib.hid (by
           have h1 := HLI.out
           rw [HM.out] at h1
           exact ⟨h1.below HTW.out hB, by rw [HKN.out], HLP.out.below HTW.out hB⟩)
          have hzw : w.heap.size ≤ wM.heap.size := HTW.out.size
          go_wp2_with fail
          refine (ways_any B wM _ _ _ (lotAt f.lots k) HLOTM.out (by omega) (by rw [HM.out]; omega)).mono ?_
          rintro e wG ⟨gf, lb, bx, rfl, heg, hbx1, hbx2, hit, hbG⟩
          have HBG := Lib.hid hbG
          have HITG := Lib.hid hit
          have HTMG : Hid (StMem wD w.heap.size D bm ri S (A ++ Bl) N M rs2 wG) := Lib.hid (HTM.out.ext hbG)
          have HTPG := Lib.hid (HTP.out.ext hbG)
          have HTCG := Lib.hid (HTC.out.ext hbG)
          have HTOG : Hid (OwnInts P0 wG (.slice (some ⟨P1, 0, none⟩) m m) OF) := Lib.hid (HTO.out.below hbG)
          have HTWG : Hid (Below w.heap.size w wG) := Lib.hid (HTW.out.trans (hbG.mono HTW.out.size))
          have HSPG : Hid (Cell1 wG bs (.int .i64 (beforeI f k))) := Lib.hid (HSPD.out.below HTMG.out.below (by omega))
          have hbx3 : D < bx := by have := HTM.out.next.lt; omega
          have HBX3 := Lib.hid hbx3
          have hPG : P2 < wG.heap.size := HTCG.out.lt
          have HPLN : Hid (∀ j, j < (permsOf (lotAt f.lots k)).length → (rowAt (permsOf (lotAt f.lots k)) j).length = m ∧ ∀ q ∈ rowAt (permsOf (lotAt f.lots k)) j, 0 ≤ q ∧ q ≤ 8) := Lib.hid (fun j hj => by
           rw [rowAt_get hj]
           obtain ⟨p1, p2, p3⟩ := permB_parts (permsOf_perm HLOT.out (List.getElem_mem hj))
           rw [HM.out] at p2 p1
           exact ⟨p2, fun q hq => by have := p1 q hq; omega⟩)
          clear hit hbG zy ry
          go_wp2
          refine (wpIn_wide (n := 11)).1 ?_
          refine range_lawB (w := wG) rfl heg HITG.out (Turned.refl _ _) (fun q hq => by rcases hq with hq | rfl; have := HTWG.out.size; omega; exact hbx2) (fun q => q = D) (fun q hq => ⟨by rw [hq]; exact HTMG.out.next.lt, by rw [hq]; rintro (h | h); omega; have := HBX3.out; omega⟩)
           (fun i W args h => by obtain ⟨v, rfl, _⟩ := h; rfl)
           (fun s' i W => ∃ N', KMap enc8 W D (keys8 N') ∧ (∀ y : K8, y ∈ N' ↔ y ∈ N ∨ ∃ j, j < i ∧ y.1 = padL (putsL (beforeI f k) OF (rowAt (permsOf (lotAt f.lots k)) j) p)) ∧ Turned (fun q => q = D ∨ wG.heap.size ≤ q) wG W)
           (fun _ _ _ _ => False) ?hI (fun _ _ _ _ _ _ h _ => h) ?h0 ?hround ?hdone (fun _ _ _ _ _ _ _ _ _ h _ => h.elim)
          case hI =>
           rintro s' i A' B' hs' ⟨N', h1, h2, h3⟩ ht
           have := HTMG.out.next.lt
           exact ⟨N', h1.turned ht (by omega), h2, h3.trans (ht.mono fun q _ hq => .inr hq.1)⟩
          case h0 =>
           intro s' W1 hs' hs1 hb
           exact ⟨N, HTMG.out.next.ext hb, fun y => by simp, Turned.of_below hb⟩
          case hround =>
           rintro l s' i W args hs' hsW hi ⟨N', h1, h2, h3⟩ ⟨v, rfl, hv⟩
           have HN1 := Lib.hid h1
           have HN2 := Lib.hid h2
           have HTG := Lib.hid h3
           have HV := Lib.hid hv
           obtain ⟨av, cv0, hva⟩ := hv.ints.form
           subst hva
           obtain ⟨PI, hPI⟩ : ∃ q, rowAt (permsOf (lotAt f.lots k)) i = q := ⟨_, rfl⟩
           have HPN2 := HPLN.out i hi
           rw [hPI] at HPN2
           have HPI2 := Lib.hid hPI
           have hPI' : (permsOf (lotAt f.lots k)).getD i [] = PI := hPI
           rw [hPI'] at HV ⊢
           rw [HPN2.1] at HV ⊢
           clear h1 h2 h3 hv hPI hPI' 
           gi_wp2
           refine ⟨Below.refl _ _, fun W2 ht => ?_⟩
           have HZ2 : Hid (W2.heap.size = W2.heap.size) := Lib.hid rfl
           have HW2 : Hid (Turned (fun q => q = D ∨ wG.heap.size ≤ q) wG W2) := Lib.hid (HTG.out.trans (ht.mono fun q _ hq => .inr hq.1))
           have HS2 : Hid (s' ≤ W2.heap.size) := Lib.hid (by have := ht.size; omega)
           have HSW : Hid (wG.heap.size + 2 ≤ s') := Lib.hid hs'
           have HG2 : Hid (wG.heap.size + 2 ≤ W2.heap.size) := Lib.hid (by have := HS2.out; omega)
           have HN3 : Hid (KMap enc8 W2 D (keys8 N')) := Lib.hid (HN1.out.turned ht (by have := HTMG.out.next.lt; omega))
           have HV2 : Hid (IsIntsX (fun q => q < B ∨ wG.heap.size + 2 ≤ q) W2 (.slice av m cv0) PI) := Lib.hid (HV.out.turned ht (fun q hq h => by have := HTWG.out.size; omega))
           have HP2 : Hid (Row8 W2 P0 x.1) := Lib.hid (HTPG.out.turned HW2.out (by omega))
           have HC2 : Hid (Cell1 W2 P2 (.slice (some ⟨P1, 0, none⟩) m m)) := Lib.hid (HTCG.out.turned HW2.out (by omega))
           have HS3 : Hid (Cell1 W2 bs (.int .i64 (beforeI f k))) := Lib.hid (HSPG.out.turned HW2.out (by have := HSPG.out.lt; omega))
           have HD2 : Hid (Cell1 W2 (D + 1 + 1) (.map (some D))) := Lib.hid (HTMG.out.cell.turned HW2.out (by have := HTMG.out.cell.lt; omega))
           clear ht HN1 HV HTG
           have c2 := HC2.out.cell
           have HC2a := Lib.hid (HC2.out.alloc (.cells arr 78))
           have c3 := HC2a.out.cell
           gi_wp2_with (first
            | ((with_reducible refine wpListIn_load8 (.tmp 12) HP2.out ?_ ?_ ?_ ?_); rotate_left; rfl; rfl; rfl; rw [HAR.out])
            | ((with_reducible refine wpListIn_store8 (.tmp 20) (.tmp 108) HX8.out ?_ ?_ ?_ ?_ ?_); rotate_left; rfl; rfl; rfl; (rw [HAR.out]; rfl); rw [HAR.out]))
           obtain ⟨w3q, hw3q⟩ : ∃ W, W2.alloc (.cells arr 78) = W := ⟨_, rfl⟩
           obtain ⟨R0, hR0⟩ : ∃ q, W2.heap.size = q := ⟨_, rfl⟩
           have HRN : Hid (Row8 w3q R0 x.1) := Lib.hid (by
            have h1 := Row8.new W2 x.2.1
            rw [HAR.out, hw3q, hR0] at h1
            exact h1)
           have HB3q : Hid (Below R0 W2 w3q) := Lib.hid (by rw [← hw3q, ← hR0]; exact box_below' _ _)
           have HRG : Hid (wG.heap.size + 2 ≤ R0) := Lib.hid (by rw [← hR0]; exact HG2.out)
           have HSR0 : Hid (s' ≤ R0) := Lib.hid (by rw [← hR0]; exact HS2.out)
           have hR3 : P2 < R0 := by have := HRG.out; omega
           have HR9 := Lib.hid hR0
           rw [hw3q, hR0]
           clear hw3q hR0 c2 c3 HC2a
           gi_loopw [111] (fun vi wr => ∃ i2 : Nat, i2 ≤ m ∧ vi = .int .i64 i2 ∧ Row8 wr R0 (padL (putsL (beforeI f k) (OF.take i2) PI p)) ∧ w3q.grownBy wr (some R0)) (fun vi _ => m - (intOf vi).toNat)
           case atStart => exact ⟨0, by omega, rfl, by rw [List.take_zero, putsL_nil, ← HXP.out]; exact HRN.out, grown_refl _ _⟩
           case round =>
            obtain ⟨i2, hi2, rfl, hrow, hg⟩ := hrel
            have HRW9 := Lib.hid hrow
            have HBR : Hid (Below R0 W2 wr) := Lib.hid (HB3q.out.grown hg (by have := HR9.out; have := HB3q.out.size; omega) (fun q hq => by cases hq; exact Nat.le_refl _))
            have HG9 := Lib.hid hg
            clear hrow hg HRN
            by_cases hil : i2 < m
            ·have hil'' : decide ((i2 : Int) < m) = true := decide_eq_true (by omega)
             obtain ⟨bv, ov, cvx, ⟨av', hav, _, _, hal⟩, _, _, hvc⟩ := HV2.out.ints
             simp only [Value.slice.injEq] at hav
             obtain ⟨rfl, hav2, rfl⟩ := hav
             have HPN3 := HPN2.1
             obtain rfl : av = some ⟨bv, ov, none⟩ := by rcases hal with h | h; exact h; omega
             obtain ⟨j, hj, hjs⟩ := HSVB.out i2 hil
             have e1a := HTOG.out.cellAt hsvl.symm (j := i2) (by omega)
             rw [hj] at e1a
             have e1 := (HBR.out.cell (p := ⟨P1, i2, none⟩) (by show P1 < R0; omega)).trans ((HW2.out.cell (p := ⟨P1, i2, none⟩) (by show P1 < wG.heap.size; omega) (by show ¬ (P1 = D ∨ wG.heap.size ≤ P1); omega)).trans e1a)
             have HE1R : Hid (bs < wr.heap.size ∧ wr.cell? ⟨bs, 0, none⟩ = some (.int .i64 (beforeI f k))) := Lib.hid (by
              have h1 := HS3.out.below HBR.out (by have := HSPG.out.lt; omega)
              exact ⟨h1.lt, h1.cell⟩)
             have hq := hvc i2 (by omega)
             have HE2R : Hid (bv < wr.heap.size ∧ wr.cell? ⟨bv, ov + i2, none⟩ = some (.int .i64 (nth PI i2))) := Lib.hid (by
              have h1 := hq.1
              exact ⟨Nat.lt_of_lt_of_le h1 (by have := HBR.out.size; have := HR9.out; omega), (HBR.out.cell (p := ⟨bv, ov + i2, none⟩) (by show bv < R0; have := HR9.out; omega)).trans hq.2⟩)
             have HPIB : Hid (0 ≤ nth PI i2 ∧ nth PI i2 ≤ 8) := Lib.hid (HPN2.2 _ (nth_mem' (by omega)))
             have HORR : Hid (R0 < wr.heap.size ∧ (∃ u, wr.cell? ⟨R0, j, none⟩ = some (.int .i64 u)) ∧ wr.frozen? ⟨R0, j, none⟩ = false) := Lib.hid ⟨HRW9.out.lt, ⟨_, HRW9.out.cell (j := j) (by omega)⟩, HRW9.out.free (j := j)⟩
             have HSU : Hid ((padL (putsL (beforeI f k) (OF.take i2) PI p)).set j (beforeI f k + nth PI i2) = padL (putsL (beforeI f k) (OF.take (i2 + 1)) PI p)) := Lib.hid (by
              rw [padL_set _ (by rw [putsL_len]; omega), putsL_succ HSVN.out (by omega) hj (by omega)])
             have HST := Lib.hid (fun W (hb : Below wr.heap.size wr W) => (HRW9.out.ext hb).set j (beforeI f k + nth PI i2))
             rw [HSU.out] at HST
             clear hj hq hvc hal e1a hav2 HPN3
             gi_wp2
             obtain ⟨V, hV⟩ : ∃ V : List (Option Value), V = [some (.int .i64 (j : Int)), some (.int .i64 (beforeI f k)), some (.slice (some ⟨bv, ov, none⟩) m cv0), some (.int .i64 (i2 : Int)), some (.pointer (some ⟨bv, ov + i2, none⟩)), some (.int .i64 (nth PI i2)), some (.int .i64 (beforeI f k + nth PI i2)), some (.pointer (some ⟨R0, j, none⟩)), none] := ⟨_, rfl⟩
             have HVV := Lib.hid hV
             clear hV
             refine wpIn_region_V [some 116, some 117, some 118, some 119, some 120, some 121, some 122, some 123, none] (fun L w' xs => ValsAt V L xs ∧ ((L 8 = true → L 1 = true ∧ L 5 = true) ∧ (L 8 = false → Below wr.heap.size wr w') ∧ (L 8 = true → ∃ w0, Below wr.heap.size wr w0 ∧ w' = w0.setCell ⟨R0, j, none⟩ (.int .i64 (beforeI f k + nth PI i2))))) (by kernel_rfl) (by kernel_rfl) (by rfl) (by rfl) (by rfl) ?_ ?_ ?_
             focus
              exact fun xs => ⟨ValsAt.none _ _, (fun h => by cases h), (fun _ => below_drewN (Below.refl _ wr) 1), (fun h => by cases h)⟩
             focus
              refine ⟨?_, ?_, ?_, ?_, ?_, ?_, ?_, ?_, ?_, trivial⟩
              all_goals
               intro L a' w' xs hi hd hf hJ K hK
               obtain ⟨hv, h0, h1, h2⟩ := hJ
               have HF := Lib.hid hf
               have HVA := Lib.hid hv
               have HLI := Lib.hid hi
               clear hf hv hi
              focus
               clear hd
               obtain ⟨ρ, hρ⟩ : ∃ ρ, a'.eval = ρ := ⟨_, rfl⟩
               have hcst := cstE hρ
               have l22 : ρ (.tmp 22) = .int .i64 (j : Int) := (congrFun hρ (.tmp 22)).symm.trans (HF.out.lo 22 rfl)
               rw [if_pos (by simp [Region.wanted])]
               unfold Oper.wpIn
               refine ⟨fun _ _ => trivial, ?_⟩
               rw [Oper.semAt_plain (Fence.wide.inRound l) _ _ (by intro c hc; cases hc)]
               rw [hρ]
               clear hρ
               go_simp
               exact hK.out _ _ ⟨HVA.out.set (i := 0) (by rw [HVV.out]; rfl), (by simp only [upd_ne (L := L) (show (1 : Nat) ≠ 0 by decide), upd_ne (L := L) (show (5 : Nat) ≠ 0 by decide), upd_ne (L := L) (show (8 : Nat) ≠ 0 by decide)]; exact h0), (by simp only [upd_ne (L := L) (show (1 : Nat) ≠ 0 by decide), upd_ne (L := L) (show (5 : Nat) ≠ 0 by decide), upd_ne (L := L) (show (8 : Nat) ≠ 0 by decide)]; exact h1), (by simp only [upd_ne (L := L) (show (1 : Nat) ≠ 0 by decide), upd_ne (L := L) (show (5 : Nat) ≠ 0 by decide), upd_ne (L := L) (show (8 : Nat) ≠ 0 by decide)]; exact h2)⟩
              focus
               clear hd
               obtain ⟨ρ, hρ⟩ : ∃ ρ, a'.eval = ρ := ⟨_, rfl⟩
               have hcst := cstE hρ
               have l7 : ρ (.tmp 7) = .pointer (some ⟨bs, 0, none⟩) := (congrFun hρ (.tmp 7)).symm.trans (HF.out.lo 7 rfl)
               have h8 : L 8 = false := by
                cases h : L 8 with
                | false => rfl
                | true => exact absurd ((h0 h).1.symm.trans HLI.out) (by decide)
               have hb := h1 h8
               have e3 := (hb.cell (p := ⟨bs, 0, none⟩) HE1R.out.1).trans HE1R.out.2
               rw [if_pos (by simp [Region.wanted])]
               unfold Oper.wpIn
               refine ⟨fun _ _ => trivial, ?_⟩
               rw [Oper.semAt_plain (Fence.wide.inRound l) _ _ (by intro c hc; cases hc)]
               rw [hρ]
               clear hρ
               go_simp
               exact hK.out _ _ ⟨HVA.out.set (i := 1) (by rw [HVV.out]; rfl), (by simp only [upd_ne (L := L) (show (5 : Nat) ≠ 1 by decide), upd_ne (L := L) (show (8 : Nat) ≠ 1 by decide), upd_self]; exact fun h => absurd ((h0 h).1.symm.trans HLI.out) (by decide)), (by simp only [upd_ne (L := L) (show (5 : Nat) ≠ 1 by decide), upd_ne (L := L) (show (8 : Nat) ≠ 1 by decide), upd_self]; exact h1), (by simp only [upd_ne (L := L) (show (5 : Nat) ≠ 1 by decide), upd_ne (L := L) (show (8 : Nat) ≠ 1 by decide), upd_self]; exact h2)⟩
              focus
               clear hd
               obtain ⟨ρ, hρ⟩ : ∃ ρ, a'.eval = ρ := ⟨_, rfl⟩
               have hcst := cstE hρ
               have l19 : ρ (.tmp 19) = .slice (some ⟨bv, ov, none⟩) m cv0 := (congrFun hρ (.tmp 19)).symm.trans (HF.out.lo 19 rfl)
               rw [if_pos (by simp [Region.wanted])]
               unfold Oper.wpIn
               refine ⟨fun _ _ => trivial, ?_⟩
               rw [Oper.semAt_plain (Fence.wide.inRound l) _ _ (by intro c hc; cases hc)]
               rw [hρ]
               clear hρ
               go_simp
               exact hK.out _ _ ⟨HVA.out.set (i := 2) (by rw [HVV.out]; rfl), (by simp only [upd_ne (L := L) (show (1 : Nat) ≠ 2 by decide), upd_ne (L := L) (show (5 : Nat) ≠ 2 by decide), upd_ne (L := L) (show (8 : Nat) ≠ 2 by decide)]; exact h0), (by simp only [upd_ne (L := L) (show (1 : Nat) ≠ 2 by decide), upd_ne (L := L) (show (5 : Nat) ≠ 2 by decide), upd_ne (L := L) (show (8 : Nat) ≠ 2 by decide)]; exact h1), (by simp only [upd_ne (L := L) (show (1 : Nat) ≠ 2 by decide), upd_ne (L := L) (show (5 : Nat) ≠ 2 by decide), upd_ne (L := L) (show (8 : Nat) ≠ 2 by decide)]; exact h2)⟩
              focus
               clear hd
               obtain ⟨ρ, hρ⟩ : ∃ ρ, a'.eval = ρ := ⟨_, rfl⟩
               have hcst := cstE hρ
               have l21 : ρ (.tmp 21) = .int .i64 (i2 : Int) := (congrFun hρ (.tmp 21)).symm.trans (HF.out.lo 21 rfl)
               rw [if_pos (by simp [Region.wanted])]
               unfold Oper.wpIn
               refine ⟨fun _ _ => trivial, ?_⟩
               rw [Oper.semAt_plain (Fence.wide.inRound l) _ _ (by intro c hc; cases hc)]
               rw [hρ]
               clear hρ
               go_simp
               exact hK.out _ _ ⟨HVA.out.set (i := 3) (by rw [HVV.out]; rfl), (by simp only [upd_ne (L := L) (show (1 : Nat) ≠ 3 by decide), upd_ne (L := L) (show (5 : Nat) ≠ 3 by decide), upd_ne (L := L) (show (8 : Nat) ≠ 3 by decide)]; exact h0), (by simp only [upd_ne (L := L) (show (1 : Nat) ≠ 3 by decide), upd_ne (L := L) (show (5 : Nat) ≠ 3 by decide), upd_ne (L := L) (show (8 : Nat) ≠ 3 by decide)]; exact h1), (by simp only [upd_ne (L := L) (show (1 : Nat) ≠ 3 by decide), upd_ne (L := L) (show (5 : Nat) ≠ 3 by decide), upd_ne (L := L) (show (8 : Nat) ≠ 3 by decide)]; exact h2)⟩
              focus
               obtain ⟨d2, d3, _⟩ := hd
               obtain ⟨ρ, hρ⟩ : ∃ ρ, a'.eval = ρ := ⟨_, rfl⟩
               have hcst := cstE hρ
               have v2 : ρ (.tmp 118) = .slice (some ⟨bv, ov, none⟩) m cv0 := (congrFun hρ (.tmp 118)).symm.trans ((HF.out.ev 2 rfl d2).trans (HVA.out 2 _ (by rw [HVV.out]; rfl) d2))
               have v3 : ρ (.tmp 119) = .int .i64 (i2 : Int) := (congrFun hρ (.tmp 119)).symm.trans ((HF.out.ev 3 rfl d3).trans (HVA.out 3 _ (by rw [HVV.out]; rfl) d3))
               have e4 : (i2 : Int) < m := by omega
               rw [if_pos (by simp [Region.wanted])]
               unfold Oper.wpIn
               refine ⟨fun _ _ => trivial, ?_⟩
               rw [Oper.semAt_plain (Fence.wide.inRound l) _ _ (by intro c hc; cases hc)]
               rw [hρ]
               clear hρ
               go_simp
               exact hK.out _ _ ⟨HVA.out.set (i := 4) (by rw [HVV.out]; rfl), (by simp only [upd_ne (L := L) (show (1 : Nat) ≠ 4 by decide), upd_ne (L := L) (show (5 : Nat) ≠ 4 by decide), upd_ne (L := L) (show (8 : Nat) ≠ 4 by decide)]; exact h0), (by simp only [upd_ne (L := L) (show (1 : Nat) ≠ 4 by decide), upd_ne (L := L) (show (5 : Nat) ≠ 4 by decide), upd_ne (L := L) (show (8 : Nat) ≠ 4 by decide)]; exact h1), (by simp only [upd_ne (L := L) (show (1 : Nat) ≠ 4 by decide), upd_ne (L := L) (show (5 : Nat) ≠ 4 by decide), upd_ne (L := L) (show (8 : Nat) ≠ 4 by decide)]; exact h2)⟩
              focus
               obtain ⟨d4, _⟩ := hd
               obtain ⟨ρ, hρ⟩ : ∃ ρ, a'.eval = ρ := ⟨_, rfl⟩
               have hcst := cstE hρ
               have v4 : ρ (.tmp 120) = .pointer (some ⟨bv, ov + i2, none⟩) := (congrFun hρ (.tmp 120)).symm.trans ((HF.out.ev 4 rfl d4).trans (HVA.out 4 _ (by rw [HVV.out]; rfl) d4))
               have h8 : L 8 = false := by
                cases h : L 8 with
                | false => rfl
                | true => exact absurd ((h0 h).2.symm.trans HLI.out) (by decide)
               have hb := h1 h8
               have e3 := (hb.cell (p := ⟨bv, ov + i2, none⟩) HE2R.out.1).trans HE2R.out.2
               rw [if_pos (by simp [Region.wanted])]
               unfold Oper.wpIn
               refine ⟨fun _ _ => trivial, ?_⟩
               rw [Oper.semAt_plain (Fence.wide.inRound l) _ _ (by intro c hc; cases hc)]
               rw [hρ]
               clear hρ
               go_simp
               exact hK.out _ _ ⟨HVA.out.set (i := 5) (by rw [HVV.out]; rfl), (by simp only [upd_ne (L := L) (show (1 : Nat) ≠ 5 by decide), upd_ne (L := L) (show (8 : Nat) ≠ 5 by decide), upd_self]; exact fun h => absurd ((h0 h).2.symm.trans HLI.out) (by decide)), (by simp only [upd_ne (L := L) (show (1 : Nat) ≠ 5 by decide), upd_ne (L := L) (show (8 : Nat) ≠ 5 by decide), upd_self]; exact h1), (by simp only [upd_ne (L := L) (show (1 : Nat) ≠ 5 by decide), upd_ne (L := L) (show (8 : Nat) ≠ 5 by decide), upd_self]; exact h2)⟩
              focus
               obtain ⟨d1, d5, _⟩ := hd
               obtain ⟨ρ, hρ⟩ : ∃ ρ, a'.eval = ρ := ⟨_, rfl⟩
               have hcst := cstE hρ
               have v1 : ρ (.tmp 117) = .int .i64 (beforeI f k) := (congrFun hρ (.tmp 117)).symm.trans ((HF.out.ev 1 rfl d1).trans (HVA.out 1 _ (by rw [HVV.out]; rfl) d1))
               have v5 : ρ (.tmp 121) = .int .i64 (nth PI i2) := (congrFun hρ (.tmp 121)).symm.trans ((HF.out.ev 5 rfl d5).trans (HVA.out 5 _ (by rw [HVV.out]; rfl) d5))
               have e7 : IntKind.i64.wrap (beforeI f k + nth PI i2) = beforeI f k + nth PI i2 := by have h1 := HPIB.out; rw [IntWalk.i64_in _ (by omega)]
               rw [if_pos (by simp [Region.wanted])]
               unfold Oper.wpIn
               refine ⟨fun _ _ => trivial, ?_⟩
               rw [Oper.semAt_plain (Fence.wide.inRound l) _ _ (by intro c hc; cases hc)]
               rw [hρ]
               clear hρ
               go_simp
               exact hK.out _ _ ⟨HVA.out.set (i := 6) (by rw [HVV.out]; rfl), (by simp only [upd_ne (L := L) (show (1 : Nat) ≠ 6 by decide), upd_ne (L := L) (show (5 : Nat) ≠ 6 by decide), upd_ne (L := L) (show (8 : Nat) ≠ 6 by decide)]; exact h0), (by simp only [upd_ne (L := L) (show (1 : Nat) ≠ 6 by decide), upd_ne (L := L) (show (5 : Nat) ≠ 6 by decide), upd_ne (L := L) (show (8 : Nat) ≠ 6 by decide)]; exact h1), (by simp only [upd_ne (L := L) (show (1 : Nat) ≠ 6 by decide), upd_ne (L := L) (show (5 : Nat) ≠ 6 by decide), upd_ne (L := L) (show (8 : Nat) ≠ 6 by decide)]; exact h2)⟩
              focus
               obtain ⟨d0, _, d1, d2, d3, d4, d5, d6, _⟩ := hd
               obtain ⟨ρ, hρ⟩ : ∃ ρ, a'.eval = ρ := ⟨_, rfl⟩
               have hcst := cstE hρ
               have l20 : ρ (.tmp 20) = .pointer (some ⟨R0, 0, none⟩) := (congrFun hρ (.tmp 20)).symm.trans (HF.out.lo 20 rfl)
               have v0 : ρ (.tmp 116) = .int .i64 (j : Int) := (congrFun hρ (.tmp 116)).symm.trans ((HF.out.ev 0 rfl d0).trans (HVA.out 0 _ (by rw [HVV.out]; rfl) d0))
               have e3 : (j : Int) < 8 := by omega
               rw [if_pos (by simp [Region.wanted])]
               unfold Oper.wpIn
               refine ⟨fun _ _ => trivial, ?_⟩
               rw [Oper.semAt_plain (Fence.wide.inRound l) _ _ (by intro c hc; cases hc)]
               rw [hρ]
               clear hρ
               go_simp
               exact hK.out _ _ ⟨HVA.out.set (i := 7) (by rw [HVV.out]; rfl), (by simp only [upd_ne (L := L) (show (1 : Nat) ≠ 7 by decide), upd_ne (L := L) (show (5 : Nat) ≠ 7 by decide), upd_ne (L := L) (show (8 : Nat) ≠ 7 by decide)]; exact h0), (by simp only [upd_ne (L := L) (show (1 : Nat) ≠ 7 by decide), upd_ne (L := L) (show (5 : Nat) ≠ 7 by decide), upd_ne (L := L) (show (8 : Nat) ≠ 7 by decide)]; exact h1), (by simp only [upd_ne (L := L) (show (1 : Nat) ≠ 7 by decide), upd_ne (L := L) (show (5 : Nat) ≠ 7 by decide), upd_ne (L := L) (show (8 : Nat) ≠ 7 by decide)]; exact h2)⟩
              focus
               obtain ⟨d7, d6, d0, d1, d2, d3, d4, d5, _, _⟩ := hd
               obtain ⟨ρ, hρ⟩ : ∃ ρ, a'.eval = ρ := ⟨_, rfl⟩
               have hcst := cstE hρ
               have v7 : ρ (.tmp 123) = .pointer (some ⟨R0, j, none⟩) := (congrFun hρ (.tmp 123)).symm.trans ((HF.out.ev 7 rfl d7).trans (HVA.out 7 _ (by rw [HVV.out]; rfl) d7))
               have v6 : ρ (.tmp 122) = .int .i64 (beforeI f k + nth PI i2) := (congrFun hρ (.tmp 122)).symm.trans ((HF.out.ev 6 rfl d6).trans (HVA.out 6 _ (by rw [HVV.out]; rfl) d6))
               rw [if_pos (by simp [Region.wanted])]
               unfold Oper.wpIn
               refine ⟨fun _ _ => trivial, ?_⟩
               rw [Oper.semAt_plain (Fence.wide.inRound l) _ _ (by intro c hc; cases hc)]
               rw [hρ]
               clear hρ
               have hb := h1 HLI.out
               obtain ⟨uu, huu⟩ := HORR.out.2.1
               have e3 := (hb.cell (p := ⟨R0, j, none⟩) HORR.out.1).trans huu
               have e4 := (hb.frozen (p := ⟨R0, j, none⟩) HORR.out.1).trans HORR.out.2.2
               have HBB9 := Lib.hid hb
               have HD1 := Lib.hid d1
               have HD5 := Lib.hid d5
               clear h0 h1 h2 hb
               go_simp
               exact hK.out undef _ ⟨HVA.out.free (i := 8) (by rw [HVV.out]; rfl) _, (by simp only [upd_ne (L := L) (show (1 : Nat) ≠ 8 by decide), upd_ne (L := L) (show (5 : Nat) ≠ 8 by decide), upd_self]; exact fun _ => ⟨HD1.out, HD5.out⟩), (by simp only [upd_ne (L := L) (show (1 : Nat) ≠ 8 by decide), upd_ne (L := L) (show (5 : Nat) ≠ 8 by decide), upd_self]; exact fun h => by cases h), (by simp only [upd_ne (L := L) (show (1 : Nat) ≠ 8 by decide), upd_ne (L := L) (show (5 : Nat) ≠ 8 by decide), upd_self]; exact fun _ => ⟨_, HBB9.out, rfl⟩)⟩
             focus
              intro L w' xs hL hJ
              obtain ⟨hv, h0, h1, h2⟩ := hJ
              have e0 : xs 0 = .int .i64 (j : Int) := hv 0 _ (by rw [HVV.out]; rfl) (hL 0 (by decide))
              have e1 : xs 1 = .int .i64 (beforeI f k) := hv 1 _ (by rw [HVV.out]; rfl) (hL 1 (by decide))
              have e2 : xs 2 = .slice (some ⟨bv, ov, none⟩) m cv0 := hv 2 _ (by rw [HVV.out]; rfl) (hL 2 (by decide))
              have e3 : xs 3 = .int .i64 (i2 : Int) := hv 3 _ (by rw [HVV.out]; rfl) (hL 3 (by decide))
              have e4 : xs 4 = .pointer (some ⟨bv, ov + i2, none⟩) := hv 4 _ (by rw [HVV.out]; rfl) (hL 4 (by decide))
              have e5 : xs 5 = .int .i64 (nth PI i2) := hv 5 _ (by rw [HVV.out]; rfl) (hL 5 (by decide))
              have e6 : xs 6 = .int .i64 (beforeI f k + nth PI i2) := hv 6 _ (by rw [HVV.out]; rfl) (hL 6 (by decide))
              have e7 : xs 7 = .pointer (some ⟨R0, j, none⟩) := hv 7 _ (by rw [HVV.out]; rfl) (hL 7 (by decide))
              simp only [putGo, Act.put, List.setIfInBounds_toArray, List.set_cons_zero, List.set_cons_succ, e0, e1, e2, e3, e4, e5, e6, e7]
              clear hv e0 e1 e2 e3 e4 e5 e6 e7
             obtain ⟨w0, hb0, hw0⟩ := h2 (hL 8 (by decide))
             rw [hw0]
             have HB0 := Lib.hid hb0
             clear h0 h1 h2 hL hw0 hb0
             gi_wp2
             go_roundw
             case rel => exact ⟨i2 + 1, by omega, by go_num, HST.out w0 HB0.out, grown_trans HG9.out (grown_trans (grown_below HB0.out (some R0)) (grown_setCell w0 ⟨R0, j, none⟩ _))⟩
             case measure => simp [intOf]; omega
            ·have hil'' : decide ((i2 : Int) < m) = false := decide_eq_false (by omega)
             have hie : i2 = m := by omega
             have HRF2 : Hid (Row8 wr R0 (padL (putsL (beforeI f k) OF PI p))) := Lib.hid (by
              have h1 := HRW9.out
              rw [hie, ← hsvl, List.take_length] at h1
              exact h1)
             clear HRW9
             have HPIM : Hid (PI ∈ permsOf (lotAt f.lots k)) := Lib.hid (by rw [← HPI2.out, rowAt_get hi]; exact List.getElem_mem hi)
             have HQO2 : Hid (putsL (beforeI f k) OF PI p ∈ asgTo f (k + 1)) := Lib.hid (by
              obtain ⟨π, hπ, he⟩ := List.mem_map.1 ((HTS.out _).2 ⟨PI, HPIM.out, rfl⟩)
              exact mem_asgTo.2 ⟨p, HPM.out, π, hπ, he.symm⟩)
             obtain ⟨y2, hy2⟩ := asg_vals h0 h8 HLK1.out (by have h1 := beforeI_mono (f := f) (show k + 1 ≤ f.lots.length by omega); have := H50.out; omega) _ HQO2.out
             have HY2 := Lib.hid hy2
             rw [← hy2] at HRF2
             have HNr := Lib.hid (HN3.out.below HBR.out (by omega))
             have HDr := Lib.hid (HD2.out.below HBR.out (by omega))
             have c9 := HDr.out.cell
             clear hy2
             gi_wp2_with (first
              | ((with_reducible refine wpListIn_load8 (.tmp 20) HRF2.out ?_ ?_ ?_ ?_); rotate_left; rfl; rfl; rfl)
              | (gi_at_mapUpdate; refine wpListIn_update_k encK8 rfl (.tmp 125) (.tmp 126) (.const (.bool true)) rfl Tryz.underlying79 rfl HNr.out (x := y2) (v := .bool true) rfl rfl ?_; intro wU hmU hgU hzU; rw [kset_keys8] at hmU; have HMU := Lib.hid hmU; have HGU := Lib.hid hgU; clear hmU hgU hzU))
             have hTU : Turned (fun q => q = D ∨ s' ≤ q) W2 wU := (Turned.mono (X := fun q => q = D ∨ s' ≤ q) ⟨HBR.out.os, HBR.out.tape, HBR.out.output, HBR.out.size, fun q hq hx => HBR.out.block q (by have := HR9.out; omega)⟩ (fun q _ h => h)).trans (Turned.of_grown HGU.out (fun q e => by cases e; exact .inl rfl))
             refine ⟨hTU, addK N' y2, HMU.out, fun yy => ?_, HW2.out.trans (hTU.mono fun q hq h => ?_)⟩
             ·rw [mem_addK, HN2.out yy]
              constructor
              ·rintro (rfl | h | ⟨j, hj, e⟩)
               ·exact .inr ⟨i, by omega, by rw [HPI2.out]; exact HY2.out⟩
               ·exact .inl h
               ·exact .inr ⟨j, by omega, e⟩
              ·rintro (h | ⟨j, hj, e⟩)
               ·exact .inr (.inl h)
               ·by_cases hji : j = i
                ·subst hji
                 rw [HPI2.out] at e
                 exact .inl (Subtype.ext (e.trans HY2.out.symm))
                ·exact .inr (.inr ⟨j, by omega, e⟩)
             ·rcases h with h | h
              ·exact .inl h
              ·exact .inr (by have := HRG.out; have := HSW.out; omega)
          case hdone =>
           rintro d s' W hd hds hsW ⟨N', h1, h2, h3⟩ hk
           have HN1 := Lib.hid h1
           have HMF : Hid (StMem wD w.heap.size D bm ri S (A ++ Bl) N' M rs2 W) := Lib.hid (HTMG.out.more h1 h3 HRI.out (by omega))
           have HNF : Hid (∀ y : K8, y ∈ N' ↔ y ∈ N ∨ ∃ q ∈ outsL f k p, y.1 = padL q) := Lib.hid (fun y => by
            rw [h2 y]
            constructor
            ·rintro (h | ⟨j, hj, e⟩)
             ·exact .inl h
             ·exact .inr ⟨_, (HTS.out _).2 ⟨_, by rw [rowAt_get hj]; exact List.getElem_mem hj, rfl⟩, e⟩
            ·rintro (h | ⟨q, hq, e⟩)
             ·exact .inl h
             ·obtain ⟨π, hπ, rfl⟩ := (HTS.out _).1 hq
              obtain ⟨j, hj, rfl⟩ := List.mem_iff_getElem.1 hπ
              exact .inr ⟨j, hj, by rw [rowAt_get hj]; exact e⟩)
           have HPF : Hid (StP f k ((A ++ Bl).map fun p => p.1) N' M) := Lib.hid (by
            rw [HLM.out]
            exact HPL.out.full HXP.out HPM.out HNF.out HTMET.out)
           have HMKS : Hid (MarksOk w.heap.size (d :: rs2) W) := Lib.hid (HMF.out.marks.cons (by have := HTWG.out.size; omega) hk (fun h => by have := HTMG.out.marks.lt d h; omega))
           have HWF : Hid (Below w.heap.size w W) := Lib.hid (HTWG.out.trans (h3.below HTWG.out.size (fun q hq h => by omega)))
           have hln := h1.len (R := 3) Tryz.underlying79
           rw [keys8_len] at hln
           have c10 := HMF.out.cell.cell
           have HND : Hid N'.Nodup := Lib.hid (keys8_nodup h1)
           have HHL : Hid (N'.length ≤ (asgTo f (k + 1)).length) := Lib.hid (HPF.out.le HND.out)
           clear h1 h2 h3 hk
           by_cases hbig : 5040 < N'.length
           ·have hbig' : decide (5040 < (N'.length : Int)) = true := decide_eq_true (by omega)
            have HE : Hid (allE f = 2) := Lib.hid (by rw [HE1.out, many_at (by have := HHL.out; omega) hlt]; rfl)
            have HR : Hid (allR f = []) := Lib.hid (by rw [HRR.out, HE.out]; rfl)
            go_wp2
            refine leaves_marks (d :: rs2) _ HMKS.out fun W' ht => ?_
            refine ⟨.tuple #[.slice none 0 0, .int .i64 2], by simp [results, Tryz.results19, go_sem], .slice none 0 0, by rw [HE.out], ?_, ?_⟩
            ·rw [HR.out]; exact OwnMat.nil _ _
            ·exact HWF.out.trans (ht.below HWF.out.size (fun q hq hm => by have := (HMKS.out.at_ q hm).1; omega))
           ·have hbig' : decide (5040 < (N'.length : Int)) = false := decide_eq_false (by omega)
            have HFW : Hid (N'.length ≤ 5040) := Lib.hid (by omega)
            go_wp2
            refine ⟨?_, ?_⟩
            focus
             refine ⟨d :: rs2, ?_⟩
             repeat apply Exists.intro
             refine ⟨?_, rfl⟩
             exact ⟨A ++ Bl, N', M, ⟨HMF.out.iter, HMF.out.next, HMF.out.met, HMF.out.cell, HMF.out.below, HMKS.out⟩, HPF.out, HFW.out⟩
            rw [HMF.out.iter.count, HLFT.out, HHW.out]
            exact Nat.lt_succ_self _
     ·obtain rfl : k = f.lots.length := by omega
      have hlt' : decide ((f.lots.length : Int) < f.lots.length) = false := decide_eq_false (by omega)
      have HE : Hid (allE f = 0) := Lib.hid (by rw [HE1.out, HMY.out]; rfl)
      have HR : Hid (allR f = asgTo f f.lots.length) := Lib.hid (by rw [HRR.out, HE.out]; rfl)
      have HEX := Lib.hid (asg_vals h0 h8 HLT.out H50.out)
      have HSN : Hid S.Nodup := Lib.hid (keys8_nodup HKM.out)
      have HSL := Lib.hid (shows_len HSH.out HSN.out HEX.out)
      have hSne : keys8 S ≠ [] := fun e => by
       have h1 := asg_ne h0 f.lots.length HLT.out
       have h2 := HSL.out
       have h3 := congrArg List.length e
       rw [keys8_len] at h3
       exact h1 (List.length_eq_zero_iff.1 (by rw [← h2]; exact h3))
      have hSle : (keys8 S).length ≤ 100000 := by rw [keys8_len, HSL.out]; have := many_len HMY.out; omega
      have HCS := Lib.hid (csorted_any wB bm w.heap.size s (keys8 S) _ hn8 HKM.out HBX.out hSne hSle)
      clear hSne hSle
      go_wp2_with (go_at_call 43; refine HCS.out.mono ?_; rintro e w5' ⟨v5, rows, rfl, ho5, hp5, hs5, hb5⟩; have HO5 := Lib.hid ho5; have HP5 := Lib.hid hp5; have HS5 := Lib.hid hs5; have HBE := Lib.hid hb5; clear ho5 hp5 hs5 hb5)
      have HRW : Hid (rows = asgTo f f.lots.length) := Lib.hid (shows_sorted HTN.out HSH.out HSN.out HEX.out (by have h := HP5.out; unfold keys8 at h; rw [List.map_map] at h; exact h) (HS5.out.imp (fun h => by omega)))
      have hmk := HMK.out.ext HBE.out
      refine leaves_marks rs _ hmk fun W' ht => ?_
      refine ⟨.tuple #[v5, .int .i64 0], by simp [results, Tryz.results19, go_sem], v5, by rw [HE.out], ?_, ?_⟩
      ·rw [HR.out, ← HRW.out]
       exact (HO5.out.mono HBB.out.size).turnedX ht hmk.notCells
      ·exact (HBB.out.trans (HBE.out.mono HBB.out.size)).trans (ht.below (Nat.le_trans HBB.out.size HBE.out.size) (fun q hq hm => by have := (hmk.at_ q hm).1; omega))
 ·have h1' : (checkE f != 0) = true := by simpa using h1
  have HE : Hid (allE f = checkE f) := Lib.hid (by rw [HER.out, if_pos h1])
  have HR : Hid (allR f = []) := Lib.hid (by rw [HRR.out, HE.out, if_neg h1])
  clear h1
  go_enter Tryz.func19, Tryz.ntmps19
  go_wp2_with (go_at_call 39; refine (HCK.out _).mono ?_; rintro e w5 ⟨rfl, hb5⟩; have HB5 := Lib.hid hb5; clear hb5)
  go_ret2
  exact ⟨.slice none 0 0, by rw [HE.out]; rfl, by rw [HR.out]; exact OwnMat.nil _ _, (box_below' w _).trans (HB5.out.mono (by simp))⟩
end Go.Proofs.YteiaeaciaglmgaaGreat
namespace Go.Proofs.YteiaeaciaglmgaaGreat
open Go.RowKit
/-- the closure of count.Possible -/
theorem poss1_any (B B' : Nat) (w : World) (v : Value) (xs ys : List Int) (c : Nat) (va : Value) (hv : IsInts B w v xs) (ha : IsInts B' w va ys) (hc : w.cell? ⟨c, 0, none⟩ = some va) :
  Calls Tryz.prog 21 #[v, .pointer (some ⟨c, 0, none⟩)] w fun e w' => e = .returned (.bool (sameB xs ys)) ∧ Drew w w' := by
 have HE := Lib.hid (equal_any B B' w v va xs ys hv ha)
 obtain ⟨a1, c1, rfl⟩ := hv.form
 obtain ⟨a2, c2, rfl⟩ := ha.form
 clear hv ha
 go_enter Tryz.func21, Tryz.ntmps21
 go_wp2_with (go_at_call 22; refine HE.out.mono ?_; rintro e w5 ⟨rfl, hd⟩; have HD := Lib.hid hd; clear hd)
 go_ret
 exact ⟨rfl, HD.out⟩
set_option maxHeartbeats 1000000 in
theorem indexposs_any (B B' : Nat) (w : World) (v va : Value) (rows : List (List Int)) (ys : List Int) (c : Nat) (hv : IsMat B w v rows) (hB : B ≤ w.heap.size) (ha : IsInts B' w va ys) (hc : w.cell? ⟨c, 0, none⟩ = some va) :
  Calls Tryz.prog 46 #[v, .func (.func 21) #[] #[.pointer (some ⟨c, 0, none⟩)]] w fun e w' => ∃ i : Int, e = .returned (.int .i64 i) ∧ decide (0 ≤ i) = anyRow rows (fun l => sameB l ys) rows.length ∧ Drew w w' := by
 obtain ⟨b, off, cp, ⟨a, rfl, hcap, hmax, haa⟩, hlen, hcc⟩ := hv
 have HC := Lib.hid hcc
 have HCC := Lib.hid hc
 have HA := Lib.hid ha
 have eg : ∀ args W, (callFunc 21 args).run Tryz.prog W = .ok (.enter 21 args) W := fun args W => by simp [go_sem]
 clear hcc hc ha
 go_enter Tryz.func46, Tryz.ntmps46
 go_wp2
 go_loopw [8] (fun i wr => ∃ k : Nat, k ≤ rows.length ∧ i = .int .i64 k ∧ anyRow rows (fun l => sameB l ys) k = false ∧ Drew w wr) (fun i _ => rows.length - (intOf i).toNat)
 case atStart => exact ⟨0, by omega, rfl, rfl, Drew.refl _⟩
 case round =>
  obtain ⟨k, hk, rfl, h1, hbr⟩ := hrel
  have H1 := Lib.hid h1
  have HBR := Lib.hid hbr
  clear h1 hbr
  by_cases hlt : k < rows.length
  ·obtain rfl : a = some ⟨b, off, none⟩ := by rcases haa with ha | ha; exact ha; omega
   obtain ⟨r, hcr, hr⟩ := HC.out k hlt
   have hcell := (HBR.out.cell _).trans hcr.2
   have HPC := Lib.hid (poss1_any B B' wr r (rowAt rows k) ys c va (hr.drew HBR.out) (HA.out.drew HBR.out) ((HBR.out.cell _).trans HCC.out))
   have HS : Hid (anyRow rows (fun l => sameB l ys) (k + 1) = (anyRow rows (fun l => sameB l ys) k || sameB (rowAt rows k) ys)) := Lib.hid rfl
   obtain ⟨a1, c1, rfl⟩ := hr.form
   clear hcr hr
   cases hp : sameB (rowAt rows k) ys
   ·have HP := Lib.hid hp
    clear hp
    go_wp2_with (go_at_call 21; refine HPC.out.mono ?_; rintro e w7 ⟨rfl, hb7⟩; have HB7 := Lib.hid hb7; clear hb7; rw [HP.out])
    go_roundw
    case rel => exact ⟨k + 1, by omega, by go_num, by rw [HS.out, H1.out, HP.out]; rfl, HBR.out.trans HB7.out⟩
    case measure => simp [intOf]; omega
   ·have HP := Lib.hid hp
    clear hp
    go_wp2_with (go_at_call 21; refine HPC.out.mono ?_; rintro e w7 ⟨rfl, hb7⟩; have HB7 := Lib.hid hb7; clear hb7; rw [HP.out])
    go_ret
    exact ⟨k, rfl, by rw [anyRow_of (k := k + 1) (m := rows.length) (by rw [HS.out, HP.out]; simp) (by omega)]; simp, HBR.out.trans HB7.out⟩
  ·obtain rfl : k = rows.length := by omega
   go_wp2
   go_ret
   exact ⟨-1, rfl, by rw [H1.out]; rfl, HBR.out⟩
theorem containsposs_any (B B' : Nat) (w : World) (v va : Value) (rows : List (List Int)) (ys : List Int) (c : Nat) (hv : IsMat B w v rows) (hB : B ≤ w.heap.size) (ha : IsInts B' w va ys) (hc : w.cell? ⟨c, 0, none⟩ = some va) :
  Calls Tryz.prog 20 #[v, .func (.func 21) #[] #[.pointer (some ⟨c, 0, none⟩)]] w fun e w' => e = .returned (.bool (anyRow rows (fun l => sameB l ys) rows.length)) ∧ Drew w w' := by
 have HC := Lib.hid (indexposs_any B B' w v va rows ys c hv hB ha hc)
 clear hv hc ha
 go_enter Tryz.func20, Tryz.ntmps20
 go_wp2_with (go_at_call 46; refine HC.out.mono ?_; rintro e w5 ⟨i, rfl, hi, hb5⟩; have HI := Lib.hid hi; have HB5 := Lib.hid hb5; clear hi hb5)
 go_ret
 exact ⟨by rw [← HI.out]; rfl, HB5.out⟩
theorem anyRow_same {rows : List (List Int)} {ys : List Int} : ∀ {k : Nat}, k ≤ rows.length → anyRow rows (fun l => sameB l ys) k = decide (ys ∈ rows.take k)
 | 0, _ => by simp [anyRow]
 | k + 1, h => by
  have ih := anyRow_same (rows := rows) (ys := ys) (k := k) (by omega)
  rw [anyRow, ih, List.take_succ_eq_append_getElem (by omega), rowAt_get (by omega)]
  unfold sameB
  rw [Bool.eq_iff_iff]
  simp only [Bool.or_eq_true, decide_eq_true_eq, List.mem_append, List.mem_singleton]
  exact or_congr Iff.rfl eq_comm
end Go.Proofs.YteiaeaciaglmgaaGreat
