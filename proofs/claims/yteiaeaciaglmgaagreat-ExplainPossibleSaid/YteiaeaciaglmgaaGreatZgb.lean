/- Layers B29b: the walks and the plain laws under the last text, merged and cut to what it uses; nothing is assumed. -/
import Derived.BigRegionIn
import Derived.StillTailTactics
import Derived.Laws.BitsAllLaws
import Derived.Laws.BitsLemmas
import Derived.WalkKit
import Derived.Deep.RegionHeld
import Derived.Test.YteiaeaciaglmgaaGreatProg
import Derived.MapKept
import Derived.RangeFuncRecord
import Derived.Maps.OwnOps
import Derived.Maps.OwnSet
import Derived.Maps.RangeRun
import Derived.Laws.OwnMore
import Derived.Maps.AppendAt
import Derived.Lib.SliceRun
import Derived.OrdersIn
import Derived.RangeFuncLeaves
import Derived.Shelf.Spec.TrailingZeros
import Derived.Deep.CutRange
import Derived.Test.YteiaeaciaglmgaaGreatZga
set_option linter.unusedVariables false
set_option linter.unusedSimpArgs false
namespace Go.Proofs.YteiaeaciaglmgaaGreat
open Go.RowKit
def outsTo (f : Flow) : Nat → List Int
 | 0 => []
 | k + 1 => outsTo f k ++ [beforeI f k]
def locV (p : Nat × Nat) : Value := .agg #[.int .i64 (p.1 : Int), .int .i64 (p.2 : Int)]
/-- block bm is a map that says where spots go -/
def WhereMap (w : World) (bm : Nat) (g : Int → Option (Nat × Nat)) : Prop := ∃ al, IntMap w bm al ∧ ∀ x, alook al x = (g x).map locV
theorem WhereMap.lt {w : World} {bm : Nat} {g : Int → Option (Nat × Nat)} (h : WhereMap w bm g) : bm < w.heap.size := by obtain ⟨al, h, _⟩ := h; exact h.lt
theorem WhereMap.below {B : Nat} {w w' : World} {bm : Nat} {g : Int → Option (Nat × Nat)} (h : WhereMap w bm g) (hb : Below B w w') (hB : bm < B) : WhereMap w' bm g := by
 obtain ⟨al, h, h2⟩ := h; exact ⟨al, h.below hb hB, h2⟩
theorem WhereMap.ext {w w' : World} {bm : Nat} {g : Int → Option (Nat × Nat)} (h : WhereMap w bm g) (hb : Below w.heap.size w w') : WhereMap w' bm g := h.below hb h.lt
theorem WhereMap.grown {w w' : World} {bm : Nat} {g : Int → Option (Nat × Nat)} {row : Option Nat} (h : WhereMap w bm g) (hg : w.grownBy w' row) (hne : some bm ≠ row) : WhereMap w' bm g := by
 obtain ⟨al, ⟨es, c, h1, h2⟩, h3⟩ := h
 exact ⟨al, ⟨es, c, (hg.block bm (Array.getElem?_eq_some_iff.1 h1).1 hne).trans h1, h2⟩, h3⟩
theorem WhereMap.made (w : World) (f : Flow) : WhereMap (w.alloc (.map #[] 0)) w.heap.size (fun x => locTo f x 0) := ⟨[], IntMap.made w, fun x => rfl⟩
def IsWeb (B : Nat) (w : World) (vs vl vo vw : Value) (f : Flow) : Prop :=
 IsFlow B w vs vl f ∧ IsInts B w vo (outsTo f f.lots.length) ∧ ∃ bm, vw = .map (some bm) ∧ bm < B ∧ WhereMap w bm (fun x => locTo f x f.lots.length)
theorem IsWeb.below {B B' : Nat} {w w' : World} {vs vl vo vw : Value} {f : Flow} (h : IsWeb B w vs vl vo vw f) (hb : Below B' w w') (hB : B ≤ B') : IsWeb B w' vs vl vo vw f := by
 obtain ⟨h1, h2, bm, h3, h4, h5⟩ := h
 exact ⟨h1.below hb hB, h2.below hb hB, bm, h3, h4, h5.below hb (by omega)⟩
theorem IsWeb.mono {B B' : Nat} {w : World} {vs vl vo vw : Value} {f : Flow} (h : IsWeb B w vs vl vo vw f) (hB : B ≤ B') : IsWeb B' w vs vl vo vw f := by
 obtain ⟨h1, h2, bm, h3, h4, h5⟩ := h
 exact ⟨h1.mono hB, h2.mono hB, bm, h3, by omega, h5⟩
end Go.Proofs.YteiaeaciaglmgaaGreat
namespace Go.Proofs.YteiaeaciaglmgaaGreat
open Go.RowKit
attribute [local go_sem] Oper.semAt_some
end Go.Proofs.YteiaeaciaglmgaaGreat
namespace Go.Proofs.YteiaeaciaglmgaaGreat
open Go.RowKit
/-- block b is a row of n truth values -/
def BoolRow (w : World) (b n : Nat) (p : Nat → Bool) : Prop := ∃ c t, w.heap[b]? = some (.cells c t (0, 0)) ∧ c.size = n ∧ ∀ i, i < n → c[i]? = some (.bool (p i))
theorem BoolRow.lt {w : World} {b n : Nat} {p : Nat → Bool} (h : BoolRow w b n p) : b < w.heap.size := by obtain ⟨c, t, h, _⟩ := h; exact (Array.getElem?_eq_some_iff.1 h).1
theorem BoolRow.grown {w w' : World} {b n : Nat} {p : Nat → Bool} {row : Option Nat} (h : BoolRow w b n p) (hg : w.grownBy w' row) (hne : some b ≠ row) : BoolRow w' b n p := by
 have hl := h.lt
 obtain ⟨c, t, h, r⟩ := h
 exact ⟨c, t, (hg.block b hl hne).trans h, r⟩
theorem BoolRow.ext {w w' : World} {b n : Nat} {p : Nat → Bool} (h : BoolRow w b n p) (hb : Below w.heap.size w w') : BoolRow w' b n p :=
 h.grown (row := none) ⟨hb.os, hb.tape, hb.output, hb.size, fun k hk _ => hb.block k hk⟩ (by simp)
theorem BoolRow.alloc {w : World} {b n : Nat} {p : Nat → Bool} (h : BoolRow w b n p) (o : Obj) : BoolRow (w.alloc o) b n p := h.ext (box_below' w o)
theorem BoolRow.cell {w : World} {b n i : Nat} {p : Nat → Bool} (h : BoolRow w b n p) (hi : i < n) : w.cell? ⟨b, i, none⟩ = some (.bool (p i)) := by
 obtain ⟨c, t, h, _, r⟩ := h
 simp only [World.cell?, h]
 exact r i hi
theorem BoolRow.set {w : World} {b n m : Nat} {p : Nat → Bool} (h : BoolRow w b n p) (hm : m < n) : BoolRow (w.setCell ⟨b, m, none⟩ (.bool true)) b n (fun i => p i || ((m : Int) == (i : Int))) := by
 obtain ⟨c, t, h, hs, r⟩ := h
 refine ⟨c.setIfInBounds m (.bool true), t, by simp [World.setCell, Array.getElem?_modify, h], by simp [hs], fun i hi => ?_⟩
 by_cases e : i = m
 ·subst e
  simp [hs, hi]
 ·rw [Array.getElem?_setIfInBounds_ne (fun h => e h.symm), r i hi]
  have : ((m : Int) == (i : Int)) = false := by simp; omega
  simp only [this, Bool.or_false]
/-- two slices that do not lie in one block -/
def Asunder (v v' : Value) : Prop := ∀ k, v.ownBlock = some k → v'.ownBlock = some k → False
theorem Asunder.symm {v v' : Value} (h : Asunder v v') : Asunder v' v := fun k a b => h k b a
/-- what holds at the head of the loop of web.sides -/
def SidesRel (w : World) (cs : Array Value) (f : Flow) (k : Nat) (p : Nat → Bool) (v1 v2 : Value) (wr : World) : Prop :=
 OwnInts (w.heap.size + 2) wr v1 (lastL f k) ∧ OwnInts (w.heap.size + 2) wr v2 (firstL f k) ∧ Asunder v1 v2 ∧ BoolRow wr (w.heap.size + 1) f.lots.length p ∧ Box wr w.heap.size cs ∧ Below w.heap.size w wr
theorem SidesRel.ext {w : World} {cs : Array Value} {f : Flow} {k : Nat} {p : Nat → Bool} {v1 v2 : Value} {wr w' : World} (h : SidesRel w cs f k p v1 v2 wr) (hb : Below wr.heap.size wr w') : SidesRel w cs f k p v1 v2 w' :=
 ⟨h.1.below hb, h.2.1.below hb, h.2.2.1, h.2.2.2.1.ext hb, h.2.2.2.2.1.ext hb, h.2.2.2.2.2.trans (hb.mono h.2.2.2.2.2.size)⟩
end Go.Proofs.YteiaeaciaglmgaaGreat
namespace Go.Proofs.YteiaeaciaglmgaaGreat
open Go.RowKit
def iterLeft (w : World) (bm r : Nat) : Nat := match w.heap[bm]?, w.heap[r]? with
 | some (.map es _), some (.mapIter _ _ seen _) => (leftOf es seen).size
 | _, _ => 0
theorem MapIter.left {w : World} {bm r : Nat} {l left : AL} (h : MapIter w bm r l left) : iterLeft w bm r = left.length := by
 obtain ⟨es, c, seen, c0, a, b, d, e, f, g⟩ := h
 unfold iterLeft
 rw [a, b]
 have := congrArg List.length g
 simpa using this
end Go.Proofs.YteiaeaciaglmgaaGreat
namespace Go.Proofs.YteiaeaciaglmgaaGreat
open Go.RowKit
theorem litInts {B b cap : Nat} {w : World} {xs : List Int} {v : Value} (hv : v = .slice (some ⟨b, 0, none⟩) xs.length cap) (hc : xs.length ≤ cap) (hm : cap ≤ 1000) (h64 : ∀ x ∈ xs, I64 x) (hb : b < B)
  (hx : Box w b (xs.map (Value.int .i64 ·)).toArray) : IsInts B w v xs := by
 refine ⟨b, 0, cap, ⟨_, hv, hc, by omega, Or.inl rfl⟩, by omega, h64, fun j hj => ⟨hb, ?_⟩⟩
 rw [hx.2]
 simp [nth_eq_getElem hj, hj]
theorem noInts {B : Nat} {w : World} : IsInts B w (.slice none 0 0) [] :=
 ⟨0, 0, 0, ⟨_, rfl, by simp, by omega, Or.inr rfl⟩, by simp, by simp, fun j hj => by simp at hj⟩
theorem noLots {B : Nat} {w : World} : IsLots B w (.slice none 0 0) [] :=
 ⟨0, 0, 0, ⟨_, rfl, by simp, by omega, Or.inr rfl⟩, by simp, fun j hj => by simp at hj⟩
theorem oneLot {B b : Nat} {w : World} {xs ys : List Int} {kn : Bool} {v u : Value} (hx : Box w b #[v, .bool kn, u]) (hb : b < B) (h1 : IsInts B w v xs) (h2 : IsInts B w u ys) : IsLots B w (.slice (some ⟨b, 0, none⟩) 1 1) [⟨xs, kn, ys⟩] := by
 refine ⟨b, 0, 1, ⟨_, rfl, by simp, by omega, Or.inl rfl⟩, by simp, fun j hj => ?_⟩
 obtain rfl : j = 0 := by simp at hj; omega
 exact ⟨_, _, _, ⟨hb, by rw [hx.2]; rfl⟩, ⟨hb, by rw [hx.2]; rfl⟩, ⟨hb, by rw [hx.2]; rfl⟩, h1, rfl, h2⟩
theorem litMat1 {B b : Nat} {w : World} {xs : List Int} {v : Value} (hx : Box w b #[v]) (hb : b < B) (h1 : IsInts B w v xs) : IsMat B w (.slice (some ⟨b, 0, none⟩) 1 1) [xs] := by
 refine ⟨b, 0, 1, ⟨_, rfl, by simp, by omega, Or.inl rfl⟩, by simp, fun j hj => ?_⟩
 obtain rfl : j = 0 := by simp at hj; omega
 exact ⟨v, ⟨hb, by rw [hx.2]; rfl⟩, h1⟩
end Go.Proofs.YteiaeaciaglmgaaGreat
namespace Go.Proofs.YteiaeaciaglmgaaGreat
theorem spotAt_unborn {f : Flow} {m : Nat} (h : lotsB f m = true) {s : Int} (hs : beforeI f (m - 1) ≤ s) : spotAt f s m = s := by
 refine spotAt_stay (k := 0) (Nat.zero_le _) (fun j _ hj => ?_)
 show hasB (lotAt f.lots j).ins s = false
 cases hh : hasB (lotAt f.lots j).ins s
 ·rfl
 ·have h1 := ins_lt h hj hh
  have h2 := beforeI_mono (f := f) (show j ≤ m - 1 by omega)
  omega
end Go.Proofs.YteiaeaciaglmgaaGreat
namespace Go.Proofs.YteiaeaciaglmgaaGreat
open Go.RowKit
/-- done: the set of the operations that have come up -/
def upd (L : Nat → Bool) (i : Nat) : Nat → Bool := fun j => j == i || L j
def allOn (L : Nat → Bool) : List Nat → Prop
 | [] => True
 | d :: r => L d = true ∧ allOn L r
theorem allOn_mem {L : Nat → Bool} : ∀ {l : List Nat}, (∀ d ∈ l, L d = true) → allOn L l
 | [], _ => trivial
 | d :: r, h => ⟨h d (by simp), allOn_mem fun e he => h e (by simp [he])⟩
/-- the operations that must come ahead of an operation -/
def depsOf (o : Oper) : List Nat := (o.after.toList.filter (Region.binds .any)).map (·.on)
/-- all edges point to an earlier operation -/
def backB : Nat → List Oper → Bool
 | _, [] => true
 | k, o :: r => (depsOf o).all (fun d => decide (d < k)) && backB (k + 1) r
theorem backB_at : ∀ {l : List Oper} {k : Nat}, backB k l = true → ∀ {i : Nat} {o : Oper}, l[i]? = some o → ∀ d ∈ depsOf o, d < k + i
 | [], _, _, i, o, ho, _, _ => by simp at ho
 | o' :: r, k, h, 0, o, ho, d, hd => by
  simp only [backB, Bool.and_eq_true, List.all_eq_true, decide_eq_true_eq] at h
  simp at ho
  subst ho
  simpa using h.1 d hd
 | o' :: r, k, h, i + 1, o, ho, d, hd => by
  simp only [backB, Bool.and_eq_true] at h
  have := backB_at h.2 (i := i) (o := o) (by simpa using ho) d hd
  omega
section
variable {P : Program} {ops : Array Oper} {Q : Exit → Act → World → Prop}
def InvStep (P : Program) (ops : Array Oper) (Q : Exit → Act → World → Prop) (I : (Nat → Bool) → Act → World → Prop) (i : Nat) (o : Oper) : Prop :=
 ∀ (L : Nat → Bool) (a : Act) (w : World), L i = false → allOn L (depsOf o) → I L a w →
  ∀ K : Act → World → Prop, Shut (∀ a' w', I (upd L i) a' w' → K a' w') → if Region.wanted o (yielded ops a.tmps) = true then Oper.wp P o a w K Q else K (a.put o.dst undef) w
def InvSteps (P : Program) (ops : Array Oper) (Q : Exit → Act → World → Prop) (I : (Nat → Bool) → Act → World → Prop) : Nat → List Oper → Prop
 | _, [] => True
 | k, o :: r => InvStep P ops Q I k o ∧ InvSteps P ops Q I (k + 1) r
theorem InvSteps.at {I : (Nat → Bool) → Act → World → Prop} : ∀ {l : List Oper} {k : Nat}, InvSteps P ops Q I k l → ∀ {i : Nat} {o : Oper}, l[i]? = some o → InvStep P ops Q I (k + i) o
 | [], _, _, i, o, ho => by simp at ho
 | o' :: r, k, h, 0, o, ho => by
  simp at ho
  subst ho
  exact h.1
 | o' :: r, k, h, i + 1, o, ho => by
  have := InvSteps.at h.2 (i := i) (o := o) (by simpa using ho)
  rw [show k + (i + 1) = k + 1 + i by omega]
  exact this
theorem upd_listed {listed : Array Bool} {i : Nat} (hi : i < listed.size) : (fun j => (listed.setIfInBounds i true).getD j false) = upd (fun j => listed.getD j false) i := by
 funext j
 unfold upd
 by_cases h : j = i
 ·subst h
  simp [Array.getD_eq_getD_getElem?, hi]
 ·have h' : ¬ i = j := fun e => h e.symm
  simp [Array.getD_eq_getD_getElem?, Array.getElem?_setIfInBounds_ne h', h]
/-- how many are not yet done -/
def leftN (L : Nat → Bool) : Nat → Nat
 | 0 => 0
 | n + 1 => leftN L n + (if L n = true then 0 else 1)
theorem leftN_upd_ge {L : Nat → Bool} {i : Nat} : ∀ n, n ≤ i → leftN (upd L i) n = leftN L n
 | 0, _ => rfl
 | n + 1, h => by
  have hn : (n == i) = false := by simp; omega
  have ih := leftN_upd_ge (L := L) (i := i) n (by omega)
  simp [leftN, ih]
  simp [upd, hn]
theorem leftN_upd {L : Nat → Bool} {i : Nat} (hi : L i = false) : ∀ n, i < n → leftN (upd L i) n + 1 = leftN L n
 | 0, h => by omega
 | n + 1, h => by
  rcases Nat.lt_or_ge i n with h1 | h1
  ·have hn : (n == i) = false := by simp; omega
   have ih := leftN_upd hi n h1
   simp [leftN, upd, hn] at *
   omega
  ·obtain rfl : i = n := by omega
   simp [leftN, leftN_upd_ge i (Nat.le_refl _), upd, hi]
theorem leftN_zero {L : Nat → Bool} : ∀ n, leftN L n = 0 → ∀ i, i < n → L i = true
 | 0, _, i, h => by omega
 | n + 1, h, i, hi => by
  simp only [leftN] at h
  rcases Nat.lt_or_ge i n with h1 | h1
  ·exact leftN_zero n (by omega) i h1
  ·obtain rfl : i = n := by omega
   by_cases hh : L i = true
   ·exact hh
   ·simp [hh] at h
theorem wpAny_inv {l : List Oper} (hb : backB 0 l = true) {I : (Nat → Bool) → Act → World → Prop} (hs : InvSteps P l.toArray Q I 0 l)
  (he : ∀ (L : Nat → Bool) a w, (∀ i, i < l.length → L i = true) → I L a w → Q .normal a w) :
  ∀ (fuel : Nat) (listed : Array Bool) (a : Act) (w : World), listed.size = l.length → leftN (fun j => listed.getD j false) l.length ≤ fuel → I (fun j => listed.getD j false) a w →
   wpAny P .any l.toArray Q fuel listed a w := by
 have hfull : ∀ (listed : Array Bool), listed.size = l.length → Region.ready .any l.toArray listed = [] → ∀ n, n ≤ l.length → ∀ i, i < n → listed.getD i false = true := by
  intro listed hz hr n
  induction n with
  | zero => intro _ i hi; omega
  | succ n ih =>
   intro hn i hi
   rcases Nat.lt_or_ge i n with h1 | h1
   ·exact ih (by omega) i h1
   ·obtain rfl : i = n := by omega
    by_cases hh : listed.getD i false = true
    ·exact hh
    ·exfalso
     have hmem : i ∈ Region.ready .any l.toArray listed := by
      unfold Region.ready
      refine List.mem_filter.2 ⟨by simp; omega, ?_⟩
      have e1 : listed.getD i true = false := by
       have : i < listed.size := by omega
       simp [Array.getD_eq_getD_getElem?, this] at hh ⊢
       exact hh
      have hlt : i < l.length := by omega
      have e2 : l.toArray[i]? = some l[i] := by simp
      rw [e1, e2]
      simp only [Bool.not_false, Bool.true_and, Option.map_some, Option.getD_some]
      rw [Array.all_eq_true_iff_forall_mem]
      intro e hme
      by_cases hbd : Region.binds .any e = true
      ·have : e.on ∈ depsOf l[i] := List.mem_map.2 ⟨e, List.mem_filter.2 ⟨by simpa using hme, hbd⟩, rfl⟩
       have h2 := backB_at hb (i := i) (o := l[i]) (by simp) _ this
       simp [ih (by omega) e.on (by omega)]
      ·simp [hbd]
     rw [hr] at hmem
     cases hmem
 intro fuel
 induction fuel with
 | zero =>
  intro listed a w hz hl hI
  have hall := leftN_zero _ (Nat.le_zero.1 hl)
  refine ⟨?_, he _ a w hall hI⟩
  refine List.eq_nil_iff_forall_not_mem.2 fun i hi => ?_
  unfold Region.ready at hi
  obtain ⟨h1, h2⟩ := List.mem_filter.1 hi
  have hlt : i < l.length := by simpa using h1
  have h3 := hall i hlt
  have : i < listed.size := by omega
  simp [Array.getD_eq_getD_getElem?, this] at h3 h2
  rw [h3] at h2
  exact absurd h2.1 (by simp)
 | succ fuel ih =>
  intro listed a w hz hl hI
  refine ⟨fun hr => he _ a w (hfull listed hz hr l.length (Nat.le_refl _)) hI, fun i hi => ?_⟩
  have hi' := hi
  unfold Region.ready at hi'
  obtain ⟨h1, h2⟩ := List.mem_filter.1 hi'
  have hlt : i < l.length := by simpa using h1
  have hlz : i < listed.size := by omega
  have e2 : l.toArray[i]? = some l[i] := by simp
  rw [e2] at h2
  simp only [Option.map_some, Option.getD_some, Bool.and_eq_true] at h2
  have hL : listed.getD i false = false := by
   have := h2.1
   simp [Array.getD_eq_getD_getElem?, hlz] at this ⊢
   exact this
  have hdeps : allOn (fun j => listed.getD j false) (depsOf l[i]) := allOn_mem fun d hd => by
   obtain ⟨e, he1, rfl⟩ := List.mem_map.1 hd
   obtain ⟨he2, he3⟩ := List.mem_filter.1 he1
   have := (Array.all_eq_true_iff_forall_mem.1 h2.2) e (by simpa using he2)
   simpa [he3] using this
  have hstep := InvSteps.at hs (i := i) (o := l[i]) (by simp)
  rw [Nat.zero_add] at hstep
  refine wpOp_step e2 fun K' hK => ?_
  refine hstep _ a w hL hdeps hI K' ?_
  intro a' w' hI'
  refine hK a' w' (ih _ a' w' (by simp [hz]) ?_ ?_)
  ·rw [upd_listed hlz]
   have := leftN_upd (L := fun j => listed.getD j false) hL l.length hlt
   omega
  ·rw [upd_listed hlz]; exact hI'
/-- a region whose order is drawn, by an invariant -/
theorem wp_region_inv {id : Nat} {l : List Oper} {a : Act} {w : World} (I : Act → (Nat → Bool) → Act → World → Prop) (hm : P.follows .mixedOrders = true) (hb : backB 0 l = true)
  (h0 : I a (fun _ => false) a w.drew) (hs : InvSteps P l.toArray Q (I a) 0 l) (he : ∀ (L : Nat → Bool) a' w', (∀ i, i < l.length → L i = true) → I a L a' w' → Q .normal a' w') : (Code.region id l.toArray true).wp P Q a w := by
 refine wp_region_any hm ?_
 have hfun : (fun j => (Array.replicate l.toArray.size false).getD j false) = fun _ => false := by
  funext j
  simp [Array.getD_eq_getD_getElem?, Array.getElem?_replicate]
  by_cases h : j < l.length <;> simp [h]
 have hle : ∀ n, leftN (fun _ => false) n ≤ n := by
  intro n
  induction n with
  | zero => simp [leftN]
  | succ n ih => simp [leftN]; exact ih
 refine wpAny_inv hb hs he _ _ _ _ (by simp) ?_ ?_
 ·rw [hfun]; simpa using hle l.length
 ·rw [hfun]; exact h0
end
end Go.Proofs.YteiaeaciaglmgaaGreat
namespace Go.Proofs.YteiaeaciaglmgaaGreat
open Go.RowKit
theorem OwnLots.allocX {C : Nat} {w : World} {v : Value} {ls : List Lot} (h : OwnLots C w v ls) (hC : C ≤ w.heap.size) (o : Obj) : OwnLots C (w.alloc o) v ls := h.below (box_below' w o) hC
/-- what holds behind BoundsMore's region of two appends -/
def MoreCut (w1 : World) (ls : List Lot) (v19 : Value) (v5 : Value) (wx : World) : Prop :=
 ∃ (p n c : Nat) (a : Option Addr), v5 = .pointer (some ⟨p, 0, none⟩) ∧ w1.heap.size ≤ p ∧ CellsN wx p #[v19, .slice a n c] ∧ OwnLots w1.heap.size wx (.slice a n c) ls ∧ Below w1.heap.size w1 wx
/-- the invariant -/
structure AI (w1 : World) (ls : List Lot) (x : Lot) (v18 v19 v21 v22 v24 : Value) (lc : Array Value) (L : Nat → Bool) (x5 x18 x19 x20 x21 x22 x23 x24 x25 x26 x27 : Value) (w : World) : Prop where
 hb : Below w1.heap.size w1 w
 h0 : L 0 = true → x18 = v18
 h1 : L 1 = true → x19 = v19
 h2 : L 2 = true → L 5 = false → OwnLots w1.heap.size w x20 []
 h3 : L 3 = true → x21 = v21
 h4 : L 4 = true → x22 = v22
 h5 : L 5 = true → L 8 = false → OwnLots w1.heap.size w x23 ls
 h6 : L 6 = true → x24 = v24
 h7 : L 7 = true → L 8 = false → ∃ g, x25 = .slice (some ⟨g, 0, none⟩) 1 1 ∧ w1.heap.size ≤ g ∧ CellsN w g lc ∧ x20.ownBlock ≠ some g ∧ x23.ownBlock ≠ some g
 h8 : L 8 = true → OwnLots w1.heap.size w x26 (ls ++ [x])
 h9 : L 9 = true → x27 = .agg #[v19, x26]
 h10 : L 10 = true → L 11 = false → ∃ p, x5 = .pointer (some ⟨p, 0, none⟩) ∧ w1.heap.size ≤ p ∧ CellsN w p #[.int .i64 0, .slice none 0 0] ∧ x20.ownBlock ≠ some p ∧ x23.ownBlock ≠ some p ∧ x26.ownBlock ≠ some p
 h11 : L 11 = true → MoreCut w1 (ls ++ [x]) v19 x5 w
 l20 : ∀ k, x20.ownBlock = some k → k < w.heap.size
 l23 : ∀ k, x23.ownBlock = some k → k < w.heap.size
 l26 : ∀ k, x26.ownBlock = some k → k < w.heap.size
 c8 : L 8 = true → L 5 = true ∧ L 7 = true
 c9 : L 9 = true → L 8 = true
 c11 : L 11 = true → L 9 = true ∧ L 10 = true ∧ L 8 = true ∧ L 6 = true ∧ L 4 = true ∧ L 3 = true ∧ L 2 = true ∧ L 1 = true ∧ L 0 = true
section
variable {w1 : World} {ls : List Lot} {x : Lot} {v18 v19 v21 v22 v24 : Value} {lc : Array Value} {L : Nat → Bool} {x5 x18 x19 x20 x21 x22 x23 x24 x25 x26 x27 : Value} {w : World}
theorem AI.size (h : AI w1 ls x v18 v19 v21 v22 v24 lc L x5 x18 x19 x20 x21 x22 x23 x24 x25 x26 x27 w) : w1.heap.size ≤ w.heap.size := h.hb.size
variable (h : AI w1 ls x v18 v19 v21 v22 v24 lc L x5 x18 x19 x20 x21 x22 x23 x24 x25 x26 x27 w)
include h
theorem AI.s1 (hi : L 1 = false) : AI w1 ls x v18 v19 v21 v22 v24 lc (upd L 1) x5 x18 v19 x20 x21 x22 x23 x24 x25 x26 x27 w :=
 {hb := h.hb, h0 := h.h0, h1 := (fun _ => rfl), h2 := h.h2, h3 := h.h3, h4 := h.h4, h5 := h.h5, h6 := h.h6, h7 := h.h7, h8 := h.h8, h9 := h.h9, h10 := h.h10, h11 := h.h11, l20 := h.l20, l23 := h.l23, l26 := h.l26, c8 := h.c8, c9 := h.c9,
  c11 := (fun e => by have := (h.c11 e).2.2.2.2.2.2.2.1; rw [hi] at this; cases this) }
/-- a new block -/
theorem AI.more (hi : L 11 = false) (o : Obj) : AI w1 ls x v18 v19 v21 v22 v24 lc L x5 x18 x19 x20 x21 x22 x23 x24 x25 x26 x27 (w.alloc o) :=
 {hb := h.hb.alloc h.size o, h0 := h.h0, h1 := h.h1, h2 := (fun a b => (h.h2 a b).allocX h.size o), h3 := h.h3, h4 := h.h4, h5 := (fun a b => (h.h5 a b).allocX h.size o), h6 := h.h6,
  h7 := (fun a b => by obtain ⟨g, e1, e2, e3, e4, e5⟩ := h.h7 a b; exact ⟨g, e1, e2, e3.alloc o, e4, e5⟩), h8 := (fun a => (h.h8 a).allocX h.size o), h9 := h.h9,
  h10 := (fun a b => by obtain ⟨g, e1, e2, e3, e4, e5, e6⟩ := h.h10 a b; exact ⟨g, e1, e2, e3.alloc o, e4, e5, e6⟩), h11 := (fun e => by rw [hi] at e; cases e),
  l20 := (fun k hk => by have := h.l20 k hk; simp; omega), l23 := (fun k hk => by have := h.l23 k hk; simp; omega), l26 := (fun k hk => by have := h.l26 k hk; simp; omega), c8 := h.c8, c9 := h.c9, c11 := h.c11 }
theorem AI.no11 {i : Nat} (hi : L i = false) (hm : i = 2 ∨ i = 5 ∨ i = 7 ∨ i = 8 ∨ i = 10) : L 11 = false := by
 cases h11 : L 11 with
 | false => rfl
 | true =>
  obtain ⟨e9, e10, e8, e6, e4, e3, e2, e1, e0⟩ := h.c11 h11
  obtain ⟨e5, e7⟩ := h.c8 e8
  rcases hm with rfl | rfl | rfl | rfl | rfl <;> simp_all
theorem AI.s2 (hi : L 2 = false) : AI w1 ls x v18 v19 v21 v22 v24 lc (upd L 2) x5 x18 x19 (.slice (some ⟨w.heap.size, 0, none⟩) 0 0) x21 x22 x23 x24 x25 x26 x27 (w.alloc (.cells #[] 64)) := by
 have hno := h.no11 hi (by simp)
 have h' := h.more hno (.cells #[] 64)
 exact {
  hb := h'.hb, h0 := h'.h0, h1 := h'.h1, h2 := (fun _ _ => OwnLots.made rfl h.size), h3 := h'.h3, h4 := h'.h4, h5 := h'.h5, h6 := h'.h6,
  h7 := (fun a b => by obtain ⟨g, e1, e2, e3, e4, e5⟩ := h.h7 a b; exact ⟨g, e1, e2, e3.alloc _, (by have := e3.lt; simp [Value.ownBlock]; omega), e5⟩), h8 := h'.h8, h9 := h'.h9,
  h10 := (fun a b => by obtain ⟨g, e1, e2, e3, e4, e5, e6⟩ := h.h10 a b; exact ⟨g, e1, e2, e3.alloc _, (by have := e3.lt; simp [Value.ownBlock]; omega), e5, e6⟩), h11 := h'.h11,
  l20 := (fun k hk => by simp [Value.ownBlock] at hk; simp; omega), l23 := h'.l23, l26 := h'.l26, c8 := h'.c8, c9 := h'.c9, c11 := (fun e => by rw [show upd L 2 11 = L 11 from rfl, hno] at e; cases e) }
end
end Go.Proofs.YteiaeaciaglmgaaGreat
namespace Go.Proofs.YteiaeaciaglmgaaGreat
open Go.RowKit Go.MapKept Go.Maps
section
variable {α : Type}
/-- what is asked of the way in which keys are held -/
structure KeyEnc (P : Program) (K : TypeId) (enc : α → Value) : Prop where
 law : Keyed P K
 inj : ∀ {x y}, enc x = enc y → x = y
 key : ∀ x, ∃ l, keyOf P K (enc x) = some l
variable {enc : α → Value}
/-- block r is a map that holds the pairs l -/
def KMap (enc : α → Value) (w : World) (r : Nat) (l : List (α × Value)) : Prop :=
 ∃ es c, w.heap[r]? = some (.map es c) ∧ Stamped es c ∧ es.toList.map (fun e => (e.key, e.val)) = l.map (fun p => (enc p.1, p.2))
variable {P : Program} {w : World} {T K E : TypeId} {r : Nat} {l : List (α × Value)}
theorem KMap.lt (h : KMap enc w r l) : r < w.heap.size := by
 obtain ⟨es, c, h1, _⟩ := h
 exact (Array.getElem?_eq_some_iff.1 h1).1
theorem KMap.below {B : Nat} {w' : World} (h : KMap enc w r l) (hb : Below B w w') (hr : r < B) : KMap enc w' r l := by
 obtain ⟨es, c, h1, h2⟩ := h
 exact ⟨es, c, (hb.block r hr).trans h1, h2⟩
theorem KMap.ext {w' : World} (h : KMap enc w r l) (hb : Below w.heap.size w w') : KMap enc w' r l := h.below hb h.lt
theorem KMap.grown {w' : World} {row : Option Nat} (h : KMap enc w r l) (hg : w.grownBy w' row) (hne : some r ≠ row) : KMap enc w' r l := by
 have hl := h.lt
 obtain ⟨es, c, h1, h2⟩ := h
 exact ⟨es, c, (hg.block r hl hne).trans h1, h2⟩
theorem KMap.alloc (h : KMap enc w r l) (o : Obj) : KMap enc (w.alloc o) r l := h.ext (box_below' w o)
theorem KMap.setCell (h : KMap enc w r l) (a : Addr) (v : Value) (hne : r ≠ a.block) : KMap enc (w.setCell a v) r l := by
 obtain ⟨es, c, h1, h2⟩ := h
 exact ⟨es, c, (Below.heap_setCell w a v r hne).trans h1, h2⟩
theorem KMap.made (w : World) : KMap enc (w.alloc (.map #[] 0)) w.heap.size [] := ⟨#[], 0, heap_alloc_new w _, stamped_empty 0, rfl⟩
theorem KMap.keys (C : KeyEnc P K enc) {es : List MapEntry} (h : es.map (fun e => (e.key, e.val)) = l.map (fun p => (enc p.1, p.2))) : ∀ e ∈ es, ∃ k, keyOf P K e.key = some k := by
 intro e he
 have : (e.key, e.val) ∈ l.map (fun p => (enc p.1, p.2)) := by rw [← h]; exact List.mem_map_of_mem he
 obtain ⟨p, _, hp⟩ := List.mem_map.1 this
 simp only [Prod.mk.injEq] at hp
 rw [← hp.1]
 exact C.key p.1
theorem KMap.keyList {es : List MapEntry} (h : es.map (fun e => (e.key, e.val)) = l.map (fun p => (enc p.1, p.2))) : es.map (·.key) = l.map (fun p => enc p.1) := by
 have := congrArg (List.map Prod.fst) h
 simpa [List.map_map, Function.comp_def] using this
theorem KMap.nodup (C : KeyEnc P K enc) (h : KMap enc w r l) : (l.map (·.1)).Nodup := by
 obtain ⟨es, c, h1, h2, h3⟩ := h
 have hk := h2.2.2
 rw [KMap.keyList h3] at hk
 have h4 : l.Pairwise (fun p q => enc p.1 ≠ enc q.1) := List.pairwise_map.1 hk
 exact List.pairwise_map.2 (h4.imp (fun h e => h (by rw [e])))
/-- block r goes over the map in block bm, which holds the pairs l; the pairs left are still to come -/
def KIter (enc : α → Value) (w : World) (bm r : Nat) (l left : List (α × Value)) : Prop :=
 ∃ es c seen c0, w.heap[bm]? = some (.map es c) ∧ w.heap[r]? = some (.mapIter (some bm) c seen c0) ∧ Stamped es c ∧ c ≤ c0 ∧ es.toList.map (fun e => (e.key, e.val)) = l.map (fun p => (enc p.1, p.2)) ∧
  (leftOf es seen).toList.map (fun e => (e.key, e.val)) = left.map (fun p => (enc p.1, p.2))
theorem KIter.kept {w' : World} {bm r : Nat} {l left : List (α × Value)} {row : Option Nat} (h : KIter enc w bm r l left) (hg : w.grownBy w' row) (h1 : some bm ≠ row) (h2 : some r ≠ row) : KIter enc w' bm r l left := by
 obtain ⟨es, c, seen, c0, a, b, rest⟩ := h
 exact ⟨es, c, seen, c0, (hg.block bm (Array.getElem?_eq_some_iff.1 a).1 h1).trans a, (hg.block r (Array.getElem?_eq_some_iff.1 b).1 h2).trans b, rest⟩
theorem KIter.ext {w' : World} {bm r : Nat} {l left : List (α × Value)} (h : KIter enc w bm r l left) (hb : Below w.heap.size w w') : KIter enc w' bm r l left :=
 h.kept (row := none) ⟨hb.os, hb.tape, hb.output, hb.size, fun k hk _ => hb.block k hk⟩ (by simp) (by simp)
theorem KIter.alloc {bm r : Nat} {l left : List (α × Value)} (h : KIter enc w bm r l left) (o : Obj) : KIter enc (w.alloc o) bm r l left := h.ext (box_below' w o)
theorem KIter.map {bm r : Nat} {l left : List (α × Value)} (h : KIter enc w bm r l left) : KMap enc w bm l := by
 obtain ⟨es, c, seen, c0, a, b, d, e, f, g⟩ := h
 exact ⟨es, c, a, d, f⟩
theorem KIter.lt {bm r : Nat} {l left : List (α × Value)} (h : KIter enc w bm r l left) : bm < w.heap.size ∧ r < w.heap.size := by
 obtain ⟨es, c, seen, c0, a, b, _⟩ := h
 exact ⟨(Array.getElem?_eq_some_iff.1 a).1, (Array.getElem?_eq_some_iff.1 b).1⟩
end
end Go.Proofs.YteiaeaciaglmgaaGreat
namespace Go.Proofs.YteiaeaciaglmgaaGreat
def ltL : List Int → List Int → Bool
 | a :: r, b :: s => if a = b then ltL r s else decide (a < b)
 | _, _ => false
theorem ltL_irrefl : ∀ a : List Int, ltL a a = false
 | [] => rfl
 | a :: r => by simp only [ltL, if_true]; exact ltL_irrefl r
theorem ltL_trans : ∀ {a b c : List Int}, ltL a b = true → ltL b c = true → ltL a c = true
 | a :: r, b :: s, c :: t, h1, h2 => by
  simp only [ltL] at h1 h2 ⊢
  by_cases hab : a = b
  ·subst hab
   rw [if_pos rfl] at h1
   by_cases hac : a = c
   ·subst hac
    rw [if_pos rfl] at h2 ⊢
    exact ltL_trans h1 h2
   ·rw [if_neg hac] at h2 ⊢
    exact h2
  ·rw [if_neg hab] at h1
   by_cases hbc : b = c
   ·subst hbc
    rw [if_neg hab]
    exact h1
   ·rw [if_neg hbc] at h2
    have e1 := of_decide_eq_true h1
    have e2 := of_decide_eq_true h2
    rw [if_neg (by omega)]
    exact decide_eq_true (by omega)
 | [], b, c, h1, h2 => by cases b <;> cases h1
 | a :: r, [], c, h1, h2 => by cases h1
 | a :: r, b :: s, [], h1, h2 => by cases h2
theorem ltL_total : ∀ {a b : List Int}, a.length = b.length → a ≠ b → ltL a b = true ∨ ltL b a = true
 | [], [], _, h => absurd rfl h
 | [], b :: s, h, _ => by simp at h
 | a :: r, [], h, _ => by simp at h
 | a :: r, b :: s, h, hne => by
  simp only [ltL]
  by_cases hab : a = b
  ·subst hab
   rw [if_pos rfl, if_pos rfl]
   exact ltL_total (by simpa using h) (fun e => hne (by rw [e]))
  ·rw [if_neg hab, if_neg (fun e => hab e.symm)]
   rcases Int.lt_or_gt_of_ne hab with h1 | h1
   ·exact .inl (decide_eq_true h1)
   ·exact .inr (decide_eq_true h1)
theorem ltL_asymm {a b : List Int} (h : ltL a b = true) : ltL b a = false := by
 cases e : ltL b a with
 | false => rfl
 | true => have := ltL_trans h e; rw [ltL_irrefl] at this; cases this
theorem ltL_ne {a b : List Int} (h : ltL a b = true) : a ≠ b := by
 rintro rfl
 rw [ltL_irrefl] at h
 cases h
def SrtL (l : List (List Int)) : Prop := l.Pairwise fun a b => ltL a b = true
theorem srt_nodup {l : List (List Int)} (h : SrtL l) : l.Nodup := h.imp fun h => ltL_ne h
/-- a list added, unless it is there -/
def putL (x : List Int) : List (List Int) → List (List Int)
 | [] => [x]
 | a :: l => if x = a then a :: l else if ltL x a then x :: a :: l else a :: putL x l
theorem mem_putL {x y : List Int} : ∀ {l : List (List Int)}, y ∈ putL x l ↔ y = x ∨ y ∈ l
 | [] => by simp [putL]
 | a :: l => by
  unfold putL
  by_cases h1 : x = a
  ·subst h1; simp
  ·rw [if_neg h1]
   by_cases h2 : ltL x a = true
   ·rw [if_pos h2]; simp
   ·rw [if_neg h2]
    simp only [List.mem_cons, mem_putL (l := l)]
    constructor
    ·rintro (h | h | h)
     ·exact .inr (.inl h)
     ·exact .inl h
     ·exact .inr (.inr h)
    ·rintro (h | h | h)
     ·exact .inr (.inl h)
     ·exact .inl h
     ·exact .inr (.inr h)
theorem srt_putL {x : List Int} : ∀ {l : List (List Int)}, SrtL l → (∀ a ∈ l, a.length = x.length) → SrtL (putL x l)
 | [], _, _ => by simp [putL, SrtL]
 | a :: l, h, hlen => by
  have h' := List.pairwise_cons.1 h
  unfold putL
  by_cases h1 : x = a
  ·rw [if_pos h1]; exact h
  ·rw [if_neg h1]
   by_cases h2 : ltL x a = true
   ·rw [if_pos h2]
    refine List.pairwise_cons.2 ⟨fun b hb => ?_, h⟩
    rcases List.mem_cons.1 hb with rfl | hb
    ·exact h2
    ·exact ltL_trans h2 (h'.1 b hb)
   ·rw [if_neg h2]
    refine List.pairwise_cons.2 ⟨fun b hb => ?_, srt_putL h'.2 (fun c hc => hlen c (List.mem_cons_of_mem _ hc))⟩
    rcases mem_putL.1 hb with rfl | hb
    ·rcases ltL_total (hlen a (by simp)) (fun e => h1 e.symm) with h3 | h3
     ·exact h3
     ·exact absurd h3 h2
    ·exact h'.1 b hb
def putAll (l : List (List Int)) (xs : List (List Int)) : List (List Int) := xs.foldl (fun l x => putL x l) l
theorem mem_putAll {y : List Int} : ∀ {xs l : List (List Int)}, y ∈ putAll l xs ↔ y ∈ xs ∨ y ∈ l
 | [], l => by simp [putAll]
 | x :: xs, l => by
  have := mem_putAll (y := y) (xs := xs) (l := putL x l)
  unfold putAll at this ⊢
  rw [List.foldl_cons, this, mem_putL, List.mem_cons]
  constructor
  ·rintro (h | h | h)
   ·exact .inl (.inr h)
   ·exact .inl (.inl h)
   ·exact .inr h
  ·rintro ((h | h) | h)
   ·exact .inr (.inl h)
   ·exact .inl h
   ·exact .inr (.inr h)
theorem srt_putAll {n : Nat} : ∀ {xs l : List (List Int)}, SrtL l → (∀ a ∈ l, a.length = n) → (∀ x ∈ xs, x.length = n) → SrtL (putAll l xs)
 | [], l, h, _, _ => h
 | x :: xs, l, h, hl, hx => by
  unfold putAll
  rw [List.foldl_cons]
  refine srt_putAll (srt_putL h (fun a ha => by rw [hl a ha, hx x (by simp)])) (fun a ha => ?_) (fun y hy => hx y (List.mem_cons_of_mem _ hy))
  rcases mem_putL.1 ha with rfl | ha
  ·exact hx _ (by simp)
  ·exact hl a ha
/-- the permutations of the numbers below n that begin with some, in order -/
def permsF (n : Nat) : Nat → List Int → List (List Int)
 | 0, b => [b]
 | f + 1, b => (List.range n).flatMap fun (x : Nat) => if hasB b (x : Int) then [] else permsF n f (b ++ [(x : Int)])
def permsL (n : Nat) : List (List Int) := permsF n n []
def Begins (n : Nat) (b : List Int) : Prop := b.Nodup ∧ ∀ x ∈ b, 0 ≤ x ∧ x < (n : Int)
theorem mem_permsF {n : Nat} {π : List Int} : ∀ (f : Nat) (b : List Int), Begins n b → (π ∈ permsF n f b ↔ ∃ r, π = b ++ r ∧ r.length = f ∧ Begins n π)
 | 0, b, hb => by
  simp only [permsF, List.mem_singleton]
  constructor
  ·rintro rfl; exact ⟨[], by simp, rfl, hb⟩
  ·rintro ⟨r, rfl, h, _⟩
   rw [List.length_eq_zero_iff.1 h]; simp
 | f + 1, b, hb => by
  simp only [permsF, List.mem_flatMap, List.mem_range]
  constructor
  ·rintro ⟨x, hx, hm⟩
   by_cases h : hasB b (x : Int) = true
   ·rw [if_pos h] at hm; cases hm
   ·rw [if_neg h] at hm
    have hnb : (x : Int) ∉ b := by unfold hasB at h; simpa using h
    have hb' : Begins n (b ++ [(x : Int)]) := by
     refine ⟨List.nodup_append.2 ⟨hb.1, by simp, fun y hy z hz e => ?_⟩, fun y hy => ?_⟩
     ·obtain rfl := List.mem_singleton.1 hz
      subst e
      exact hnb hy
     ·rcases List.mem_append.1 hy with hy | hy
      ·exact hb.2 y hy
      ·obtain rfl := List.mem_singleton.1 hy; omega
    obtain ⟨r, h1, h2, h3⟩ := (mem_permsF f _ hb').1 hm
    exact ⟨(x : Int) :: r, by rw [h1]; simp, by simp [h2], h3⟩
  ·rintro ⟨r, rfl, hr, hp⟩
   cases r with
   | nil => simp at hr
   | cons y r =>
    have hy := hp.2 y (by simp)
    have hyb : y ∉ b := by
     intro hm
     have := (List.nodup_append.1 hp.1).2.2 y hm y (by simp)
     exact this rfl
    have hyx : ((y.toNat : Nat) : Int) = y := Int.toNat_of_nonneg hy.1
    refine ⟨y.toNat, by omega, ?_⟩
    rw [hyx, if_neg (by unfold hasB; simpa using hyb)]
    have hb' : Begins n (b ++ [y]) := by
     have e : b ++ y :: r = (b ++ [y]) ++ r := by simp
     rw [e] at hp
     exact ⟨(List.nodup_append.1 hp.1).1, fun z hz => hp.2 z (List.mem_append_left _ hz)⟩
    exact (mem_permsF f _ hb').2 ⟨r, by simp, by simpa using hr, hp⟩
theorem mem_permsL {n : Nat} {π : List Int} : π ∈ permsL n ↔ permB π (n : Int) = true := by
 unfold permsL
 rw [mem_permsF n [] ⟨List.nodup_nil, fun x h => by cases h⟩]
 unfold permB inB diffB
 simp only [List.nil_append, Bool.and_eq_true, decide_eq_true_eq, List.all_eq_true]
 constructor
 ·rintro ⟨r, rfl, h1, h2, h3⟩
  exact ⟨fun x hx => h3 x hx, by omega, h2⟩
 ·rintro ⟨h1, h2, h3⟩
  exact ⟨π, rfl, by omega, h3, fun x hx => h1 x hx⟩
end Go.Proofs.YteiaeaciaglmgaaGreat
namespace Go.Proofs.YteiaeaciaglmgaaGreat
/-- where a letter is behind a lot -/
def mvI (ins π : List Int) (n : Int) (x : Int) : Int := if hasB ins x then n + nth π (ins.idxOf x) else x
def moveL (ins π : List Int) (n : Int) (p : List Int) : List Int := p.map (mvI ins π n)
def permsOf (x : Lot) : List (List Int) := if x.known then [x.perm] else permsL x.ins.length
def outsL (f : Flow) (k : Nat) (p : List Int) : List (List Int) := (permsOf (lotAt f.lots k)).map fun π => moveL (lotAt f.lots k).ins π (beforeI f k) p
def beginL (f : Flow) : List Int := (List.range f.senders.toNat).map Int.ofNat
/-- the assignments behind the first k lots -/
def asgTo (f : Flow) : Nat → List (List Int)
 | 0 => [beginL f]
 | k + 1 => putAll [] ((asgTo f k).flatMap (outsL f k))
def asgL (f : Flow) : List (List Int) := asgTo f f.lots.length
theorem mem_asgTo {f : Flow} {k : Nat} {q : List Int} : q ∈ asgTo f (k + 1) ↔ ∃ p ∈ asgTo f k, ∃ π ∈ permsOf (lotAt f.lots k), q = moveL (lotAt f.lots k).ins π (beforeI f k) p := by
 show q ∈ putAll [] ((asgTo f k).flatMap (outsL f k)) ↔ _
 rw [mem_putAll]
 simp only [List.mem_flatMap, outsL, List.mem_map, List.not_mem_nil, or_false]
 constructor
 ·rintro ⟨p, hp, π, hπ, rfl⟩; exact ⟨p, hp, π, hπ, rfl⟩
 ·rintro ⟨p, hp, π, hπ, rfl⟩; exact ⟨p, hp, π, hπ, rfl⟩
theorem asg_len {f : Flow} : ∀ k, ∀ p ∈ asgTo f k, p.length = f.senders.toNat
 | 0, p, hp => by
  obtain rfl : p = beginL f := List.mem_singleton.1 hp
  simp [beginL]
 | k + 1, p, hp => by
  obtain ⟨q, hq, π, _, rfl⟩ := mem_asgTo.1 hp
  unfold moveL
  rw [List.length_map]
  exact asg_len k q hq
theorem asg_srt {f : Flow} : ∀ k, SrtL (asgTo f k)
 | 0 => by unfold asgTo SrtL; simp
 | k + 1 => by
  show SrtL (putAll [] ((asgTo f k).flatMap (outsL f k)))
  refine srt_putAll (n := f.senders.toNat) (by simp [SrtL]) (fun a ha => by cases ha) (fun q hq => ?_)
  refine asg_len (f := f) (k + 1) q ?_
  show q ∈ putAll [] ((asgTo f k).flatMap (outsL f k))
  rw [mem_putAll]
  exact .inl hq
/-- the letters are at the spots that are free behind the first k lots -/
def AllAt (f : Flow) (k : Nat) (p : List Int) : Prop := p.Nodup ∧ ∀ x, x ∈ p ↔ (0 ≤ x ∧ x < beforeI f k ∧ goneB f x k = false)
theorem lotB_parts {f : Flow} {k : Nat} (h : lotB f k = true) : (lotAt f.lots k).ins ≠ [] ∧ (lotAt f.lots k).ins.Nodup ∧ (∀ x ∈ (lotAt f.lots k).ins, 0 ≤ x ∧ x < beforeI f k ∧ goneB f x k = false) ∧
  ((lotAt f.lots k).known = true → permB (lotAt f.lots k).perm (lotAt f.lots k).ins.length = true) ∧ ((lotAt f.lots k).known = false → (lotAt f.lots k).perm = []) := by
 unfold lotB at h
 simp only [Bool.and_eq_true, decide_eq_true_eq, List.all_eq_true, Bool.not_eq_true'] at h
 obtain ⟨⟨⟨h1, h2⟩, h3⟩, h4⟩ := h
 unfold diffB at h2
 refine ⟨h1, of_decide_eq_true h2, fun x hx => ?_, fun hk => ?_, fun hk => ?_⟩
 ·have := h3 x hx
  exact ⟨this.1.1, this.1.2, this.2⟩
 ·rw [hk] at h4; simpa using h4
 ·rw [hk] at h4; simpa using h4
theorem permB_parts {π : List Int} {n : Nat} (h : permB π (n : Int) = true) : (∀ x ∈ π, 0 ≤ x ∧ x < (n : Int)) ∧ π.length = n ∧ π.Nodup := by
 unfold permB inB diffB at h
 simp only [Bool.and_eq_true, decide_eq_true_eq, List.all_eq_true] at h
 exact ⟨h.1, by omega, h.2.2⟩
theorem permsOf_perm {f : Flow} {k : Nat} (h : lotB f k = true) {π : List Int} (hπ : π ∈ permsOf (lotAt f.lots k)) : permB π (lotAt f.lots k).ins.length = true := by
 unfold permsOf at hπ
 obtain ⟨_, _, _, h4, _⟩ := lotB_parts h
 cases hk : (lotAt f.lots k).known with
 | true =>
  rw [hk] at hπ
  obtain rfl := List.mem_singleton.1 hπ
  exact h4 hk
 | false =>
  rw [hk] at hπ
  exact mem_permsL.1 hπ
theorem nodup_len : ∀ {l m : List Int}, l.Nodup → (∀ x ∈ l, x ∈ m) → l.length ≤ m.length
 | [], m, _, _ => by simp
 | a :: l, m, hn, hs => by
  have h' := List.nodup_cons.1 hn
  have ih := nodup_len (l := l) (m := m.erase a) h'.2 (fun x hx => (List.mem_erase_of_ne (fun e => h'.1 (by rw [← e]; exact hx))).2 (hs x (List.mem_cons_of_mem _ hx)))
  have hm := hs a (List.mem_cons_self ..)
  have := List.length_erase_of_mem hm
  have := List.length_pos_of_mem hm
  simp only [List.length_cons]
  omega
/-- a list of n different numbers below n has all of them -/
theorem full_of {π : List Int} {n : Nat} (h : permB π (n : Int) = true) {j : Nat} (hj : j < n) : (j : Int) ∈ π := by
 obtain ⟨h1, h2, h3⟩ := permB_parts h
 have hsub : π ⊆ (List.range n).map Int.ofNat := by
  intro x hx
  have := h1 x hx
  exact List.mem_map.2 ⟨x.toNat, List.mem_range.2 (by omega), Int.toNat_of_nonneg this.1⟩
 refine Classical.byContradiction fun hn => ?_
 have hsub2 : (j : Int) :: π ⊆ (List.range n).map Int.ofNat := by
  intro x hx
  rcases List.mem_cons.1 hx with rfl | hx
  ·exact List.mem_map.2 ⟨j, List.mem_range.2 hj, rfl⟩
  ·exact hsub hx
 have hnd : ((j : Int) :: π).Nodup := List.nodup_cons.2 ⟨hn, h3⟩
 have := nodup_len hnd (fun x hx => hsub2 hx)
 simp at this
 omega
theorem nth_mem' {l : List Int} {i : Nat} (h : i < l.length) : nth l i ∈ l := by
 unfold nth
 rw [List.getD_eq_getElem?_getD, List.getElem?_eq_getElem h]
 exact List.getElem_mem h
theorem hasB_mem {l : List Int} {x : Int} : hasB l x = true ↔ x ∈ l := by unfold hasB; simp
/-- a letter that goes into a lot comes out at one of its places -/
theorem mv_in {ins π : List Int} {n x : Int} (hp : permB π (ins.length : Int) = true) (hx : x ∈ ins) : ∃ j : Int, j ∈ π ∧ mvI ins π n x = n + j ∧ 0 ≤ j ∧ j < ins.length ∧ j = nth π (ins.idxOf x) := by
 obtain ⟨h1, h2, h3⟩ := permB_parts hp
 have hi : ins.idxOf x < ins.length := List.idxOf_lt_length_of_mem hx
 have hm := nth_mem' (l := π) (i := ins.idxOf x) (by omega)
 exact ⟨nth π (ins.idxOf x), hm, by unfold mvI; rw [if_pos (hasB_mem.2 hx)], (h1 _ hm).1, (h1 _ hm).2, rfl⟩
theorem mv_out {ins π : List Int} {n x : Int} (hx : x ∉ ins) : mvI ins π n x = x := by
 unfold mvI
 rw [if_neg (fun h => hx (hasB_mem.1 h))]
theorem nth_injC {l : List Int} (hn : l.Nodup) {i j : Nat} (hi : i < l.length) (hj : j < l.length) (h : nth l i = nth l j) : i = j := by
 rw [nth_lt hi, nth_lt hj] at h
 have hp := List.pairwise_iff_getElem.1 hn
 rcases Nat.lt_trichotomy i j with hlt | heq | hgt
 ·exact absurd h (hp i j hi hj hlt)
 ·exact heq
 ·exact absurd h.symm (hp j i hj hi hgt)
theorem idx_inj {l : List Int} {x y : Int} (hx : x ∈ l) (hy : y ∈ l) (h : l.idxOf x = l.idxOf y) : x = y := by
 have e1 := List.getElem_idxOf (List.idxOf_lt_length_of_mem hx)
 have e2 := List.getElem_idxOf (List.idxOf_lt_length_of_mem hy)
 rw [← e1, ← e2]
 simp only [h]
/-- moving is one to one on the spots before a lot -/
theorem mv_inj {ins π : List Int} {n x y : Int} (hp : permB π (ins.length : Int) = true) (hx : x < n) (hy : y < n) (h : mvI ins π n x = mvI ins π n y) : x = y := by
 by_cases h1 : x ∈ ins
 ·obtain ⟨j, _, e1, e2, e3, e4⟩ := mv_in (n := n) hp h1
  by_cases h2 : y ∈ ins
  ·obtain ⟨j', _, f1, f2, f3, f4⟩ := mv_in (n := n) hp h2
   rw [e1, f1] at h
   have hj : j = j' := by omega
   rw [e4, f4] at hj
   obtain ⟨_, p2, p3⟩ := permB_parts hp
   exact idx_inj h1 h2 (nth_injC p3 (by rw [p2]; exact List.idxOf_lt_length_of_mem h1) (by rw [p2]; exact List.idxOf_lt_length_of_mem h2) hj)
  ·rw [e1, mv_out h2] at h; omega
 ·rw [mv_out h1] at h
  by_cases h2 : y ∈ ins
  ·obtain ⟨j', _, f1, f2, f3, f4⟩ := mv_in (n := n) hp h2
   rw [f1] at h; omega
  ·rw [mv_out h2] at h; exact h
theorem goneB_lt {f : Flow} {m : Nat} (hl : lotsB f m = true) {x : Int} : goneB f x m = true → x < beforeI f m := by
 induction m with
 | zero => intro h; cases h
 | succ m ih =>
  intro h
  have hl' : lotsB f m = true := by simp only [lotsB, Bool.and_eq_true] at hl; exact hl.1
  have hlot := lotsB_lot hl (show m < m + 1 by omega)
  simp only [goneB, Bool.or_eq_true] at h
  simp only [beforeI]
  rcases h with h | h
  ·have := ih hl' h; omega
  ·have := ((lotB_parts hlot).2.2.1 x (hasB_mem.1 h)).2.1; omega
theorem all_step {f : Flow} {k : Nat} (hl : lotsB f (k + 1) = true) (h0 : 0 ≤ beforeI f k) {p π : List Int} (h : AllAt f k p) (hπ : permB π (lotAt f.lots k).ins.length = true) :
  AllAt f (k + 1) (moveL (lotAt f.lots k).ins π (beforeI f k) p) := by
 have hl' : lotsB f k = true := by simp only [lotsB, Bool.and_eq_true] at hl; exact hl.1
 obtain ⟨hi1, hi2, hi3, _⟩ := lotB_parts (lotsB_lot hl (show k < k + 1 by omega))
 obtain ⟨hn, hm⟩ := h
 obtain ⟨p1, p2, p3⟩ := permB_parts hπ
 refine ⟨?_, fun x => ?_⟩
 ·unfold moveL
  refine List.pairwise_map.2 (hn.imp_of_mem fun {a b} ha hb hne e => hne ?_)
  exact mv_inj hπ ((hm a).1 ha).2.1 ((hm b).1 hb).2.1 e
 ·unfold moveL
  simp only [List.mem_map, beforeI, goneB, Bool.or_eq_false_iff]
  constructor
  ·rintro ⟨y, hy, rfl⟩
   obtain ⟨y1, y2, y3⟩ := (hm y).1 hy
   by_cases hyi : y ∈ (lotAt f.lots k).ins
   ·obtain ⟨j, _, e1, e2, e3, _⟩ := mv_in (n := beforeI f k) hπ hyi
    rw [e1]
    refine ⟨by omega, by omega, ?_, ?_⟩
    ·cases hg : goneB f (beforeI f k + j) k with
     | false => rfl
     | true => have := goneB_lt hl' hg; omega
    ·cases hg : hasB (lotAt f.lots k).ins (beforeI f k + j) with
     | false => rfl
     | true => have := (hi3 _ (hasB_mem.1 hg)).2.1; omega
   ·rw [mv_out hyi]
    refine ⟨y1, by omega, y3, ?_⟩
    cases hg : hasB (lotAt f.lots k).ins y with
    | false => rfl
    | true => exact absurd (hasB_mem.1 hg) hyi
  ·rintro ⟨x1, x2, x3, x4⟩
   by_cases hx : x < beforeI f k
   ·refine ⟨x, (hm x).2 ⟨x1, hx, x3⟩, mv_out (fun hmem => ?_)⟩
    rw [hasB_mem.2 hmem] at x4
    cases x4
   ·have hj : (x - beforeI f k).toNat < (lotAt f.lots k).ins.length := by omega
    have hmem := full_of hπ hj
    have hjx : (((x - beforeI f k).toNat : Nat) : Int) = x - beforeI f k := Int.toNat_of_nonneg (by omega)
    rw [hjx] at hmem
    have hi : π.idxOf (x - beforeI f k) < (lotAt f.lots k).ins.length := by rw [← p2]; exact List.idxOf_lt_length_of_mem hmem
    refine ⟨nth (lotAt f.lots k).ins (π.idxOf (x - beforeI f k)), (hm _).2 (hi3 _ (nth_mem' hi)), ?_⟩
    have hmy := nth_mem' hi
    unfold mvI
    rw [if_pos (hasB_mem.2 hmy)]
    have hidx : (lotAt f.lots k).ins.idxOf (nth (lotAt f.lots k).ins (π.idxOf (x - beforeI f k))) = π.idxOf (x - beforeI f k) := by
     rw [nth_lt hi]
     exact hi2.idxOf_getElem _ hi
    rw [hidx, nth_lt (by rw [p2]; exact hi), List.getElem_idxOf]
    omega
theorem asg_all {f : Flow} (h0 : 0 ≤ f.senders) : ∀ k, lotsB f k = true → ∀ p ∈ asgTo f k, AllAt f k p
 | 0, _, p, hp => by
  obtain rfl : p = beginL f := List.mem_singleton.1 hp
  refine ⟨?_, fun x => ?_⟩
  ·unfold beginL
   exact List.pairwise_map.2 (List.nodup_range.imp fun {a b} hne e => hne (by have e' : (a : Int) = (b : Int) := e; omega))
  ·unfold beginL
   simp only [List.mem_map, List.mem_range, beforeI, goneB, and_true]
   constructor
   ·rintro ⟨a, ha, rfl⟩; simp; omega
   ·rintro ⟨a, b⟩; exact ⟨x.toNat, by omega, by simp; omega⟩
 | k + 1, hl, p, hp => by
  have hl' : lotsB f k = true := by simp only [lotsB, Bool.and_eq_true] at hl; exact hl.1
  obtain ⟨q, hq, π, hπ, rfl⟩ := mem_asgTo.1 hp
  have hb : 0 ≤ beforeI f k := by
   have : ∀ j, 0 ≤ beforeI f j := fun j => by
    induction j with
    | zero => exact h0
    | succ j ih => simp only [beforeI]; omega
   exact this k
  exact all_step hl hb (asg_all h0 k hl' q hq) (permsOf_perm (lotsB_lot hl (show k < k + 1 by omega)) hπ)
end Go.Proofs.YteiaeaciaglmgaaGreat
namespace Go.Proofs.YteiaeaciaglmgaaGreat
theorem asg_ne {f : Flow} (h0 : 0 ≤ f.senders) : ∀ k, lotsB f k = true → asgTo f k ≠ []
 | 0, _ => by simp [asgTo]
 | k + 1, hl => by
  have hl' : lotsB f k = true := by simp only [lotsB, Bool.and_eq_true] at hl; exact hl.1
  obtain ⟨p, hp⟩ := List.exists_mem_of_ne_nil _ (asg_ne h0 k hl')
  have hπ : ∃ π, π ∈ permsOf (lotAt f.lots k) := by
   unfold permsOf
   cases hk : (lotAt f.lots k).known with
   | true => exact ⟨_, by simp; rfl⟩
   | false =>
    refine ⟨(List.range (lotAt f.lots k).ins.length).map Int.ofNat, ?_⟩
    rw [if_neg (by decide), mem_permsL]
    unfold permB inB diffB
    simp only [Bool.and_eq_true, decide_eq_true_eq, List.all_eq_true, List.mem_map, List.mem_range, List.length_map, List.length_range, and_true, true_and]
    refine ⟨?_, List.pairwise_map.2 (List.nodup_range.imp fun {a b} hne e => hne (by have e' : (a : Int) = (b : Int) := e; omega))⟩
    rintro x ⟨a, ha, rfl⟩
    exact ⟨by simp, by simp; omega⟩
  obtain ⟨π, hπ⟩ := hπ
  exact List.ne_nil_of_mem (mem_asgTo.2 ⟨p, hp, π, hπ, rfl⟩)
end Go.Proofs.YteiaeaciaglmgaaGreat
namespace Go.Proofs.YteiaeaciaglmgaaGreat
theorem nth_move {ins π p : List Int} {n : Int} {s : Nat} (hs : s < p.length) : nth (moveL ins π n p) s = mvI ins π n (nth p s) := by
 unfold moveL nth
 rw [List.getD_eq_getElem?_getD, List.getD_eq_getElem?_getD, List.getElem?_map, List.getElem?_eq_getElem hs]
 rfl
end Go.Proofs.YteiaeaciaglmgaaGreat
namespace Go.Proofs.YteiaeaciaglmgaaGreat
theorem filter_split {α : Type} (p : α → Bool) : ∀ l : List α, l.length = (l.filter p).length + (l.filter fun a => !p a).length
 | [] => rfl
 | a :: l => by
  have ih := filter_split p l
  cases h : p a <;> simp [List.filter_cons, h] <;> omega
end Go.Proofs.YteiaeaciaglmgaaGreat
namespace Go.Proofs.YteiaeaciaglmgaaGreat
theorem unk_unborn {f : Flow} {m : Nat} (h : lotsB f m = true) {s : Int} (hs : beforeI f (m - 1) ≤ s) : unkTo f s m < 0 := by
 have := unkTo_stay' (f := f) (s := s) (k := 0) (m := m) (Nat.zero_le _) (fun j _ hj => by
  show hasB (lotAt f.lots j).ins s = false
  cases hh : hasB (lotAt f.lots j).ins s
  ·rfl
  ·have h1 := ins_lt h hj hh
   have h2 := beforeI_mono (f := f) (show j ≤ m - 1 by omega)
   omega) (by simp [unkTo])
 omega
/-- behind m lots a letter is where known lots lead it, from its sender or from the last unknown lot -/
def LastAt (f : Flow) (p : List Int) (m s : Nat) : Prop :=
 (unkTo f s m < 0 → nth p s = spotAt f s m) ∧
 (0 ≤ unkTo f s m → ∃ j i : Nat, j < m ∧ (lotAt f.lots j).known = false ∧ i < (lotAt f.lots j).ins.length ∧ nth p s = spotAt f (beforeI f j + i) m ∧ unkTo f (beforeI f j + i) m < 0)
theorem last_step {f : Flow} {k : Nat} (hl : lotsB f (k + 1) = true) {π : List Int} (hπ : π ∈ permsOf (lotAt f.lots k)) {t x : Int} (hx : x = spotAt f t k) (hu : unkTo f t k < 0) :
  (unkTo f t (k + 1) < 0 ∧ mvI (lotAt f.lots k).ins π (beforeI f k) x = spotAt f t (k + 1)) ∨
  (unkTo f t (k + 1) = k ∧ (lotAt f.lots k).known = false ∧ ∃ i : Nat, i < (lotAt f.lots k).ins.length ∧ mvI (lotAt f.lots k).ins π (beforeI f k) x = spotAt f (beforeI f k + i) (k + 1) ∧ unkTo f (beforeI f k + i) (k + 1) < 0) := by
 have hlot := lotsB_lot hl (show k < k + 1 by omega)
 have hperm := permsOf_perm hlot hπ
 by_cases hin : x ∈ (lotAt f.lots k).ins
 ·have hb : hasB (lotAt f.lots k).ins (spotAt f t k) = true := by rw [← hx]; exact hasB_mem.2 hin
  obtain ⟨j, hj, e1, e2, e3, e4⟩ := mv_in (n := beforeI f k) hperm hin
  cases hk : (lotAt f.lots k).known with
  | true =>
   refine .inl ⟨?_, ?_⟩
   ·simp only [unkTo]
    rw [if_neg (by omega), hb, hk]
    simp
   ·have hπe : π = (lotAt f.lots k).perm := by unfold permsOf at hπ; rw [hk] at hπ; simpa using hπ
    simp only [spotAt]
    rw [if_pos hb, e1, e4, hπe, hx]
  | false =>
   have hjn : ((j.toNat : Nat) : Int) = j := Int.toNat_of_nonneg e2
   refine .inr ⟨?_, rfl, j.toNat, by omega, ?_, ?_⟩
   ·simp only [unkTo]
    rw [if_neg (by omega), hb, hk]
    simp
   ·rw [spotAt_unborn hl (by simp only [Nat.add_sub_cancel]; omega), hjn, e1]
   ·exact unk_unborn hl (by simp only [Nat.add_sub_cancel]; omega)
 ·have hb : hasB (lotAt f.lots k).ins (spotAt f t k) = false := by
   cases h : hasB (lotAt f.lots k).ins (spotAt f t k) with
   | false => rfl
   | true => rw [← hx] at h; exact absurd (hasB_mem.1 h) hin
  refine .inl ⟨?_, ?_⟩
  ·simp only [unkTo]
   rw [if_neg (by omega), hb]
   simp
  ·simp only [spotAt]
   rw [hb, mv_out hin, hx]
   simp
theorem asg_last {f : Flow} (h0 : 0 ≤ f.senders) {s : Nat} (hs : (s : Int) < f.senders) : ∀ m, lotsB f m = true → ∀ p ∈ asgTo f m, LastAt f p m s
 | 0, _, p, hp => by
  obtain rfl : p = beginL f := List.mem_singleton.1 hp
  refine ⟨fun _ => ?_, fun h => by simp [unkTo] at h⟩
  have hsl : s < f.senders.toNat := by omega
  unfold beginL nth
  rw [List.getD_eq_getElem?_getD, List.getElem?_map, List.getElem?_range hsl]
  rfl
 | k + 1, hl, p, hp => by
  have hl' : lotsB f k = true := by simp only [lotsB, Bool.and_eq_true] at hl; exact hl.1
  obtain ⟨q, hq, π, hπ, rfl⟩ := mem_asgTo.1 hp
  have ih := asg_last h0 hs k hl' q hq
  have hn := nth_move (ins := (lotAt f.lots k).ins) (π := π) (n := beforeI f k) (show s < q.length by rw [asg_len k q hq]; omega)
  by_cases hu : unkTo f s k < 0
  ·rcases last_step hl hπ (ih.1 hu) hu with ⟨a, b⟩ | ⟨a, hk, i, hi, b, c⟩
   ·exact ⟨fun _ => by rw [hn, b], fun h => by omega⟩
   ·exact ⟨fun h => by omega, fun _ => ⟨k, i, by omega, hk, hi, by rw [hn, b], c⟩⟩
  ·have hst := unkTo_stay (f := f) (s := s) (k := k) (m := k + 1) (by omega) (by omega)
   obtain ⟨j, i, hj, hkj, hi, e, hn'⟩ := ih.2 (by omega)
   refine ⟨fun h => by omega, fun _ => ?_⟩
   rcases last_step hl hπ e hn' with ⟨a, b⟩ | ⟨a, hk, i', hi', b, c⟩
   ·exact ⟨j, i, by omega, hkj, hi, by rw [hn, b], a⟩
   ·exact ⟨k, i', by omega, hk, hi', by rw [hn, b], c⟩
theorem ext_nth {p q : List Int} (h : p.length = q.length) (he : ∀ s, s < p.length → nth p s = nth q s) : p = q := by
 refine List.ext_getElem h (fun i h1 h2 => ?_)
 have := he i h1
 rw [nth_lt h1, nth_lt h2] at this
 exact this
def facN : Nat → Nat
 | 0 => 1
 | n + 1 => (n + 1) * facN n
theorem facN_pos : ∀ n, 1 ≤ facN n
 | 0 => Nat.le_refl _
 | n + 1 => by
  have := facN_pos n
  simp only [facN]
  exact Nat.mul_le_mul (show 1 ≤ n + 1 by omega) this
theorem len_flat_if {α β : Type} {c : α → Bool} {G : α → List β} {v : Nat} : ∀ {l : List α}, (∀ x ∈ l, c x = false → (G x).length = v) → (l.flatMap fun x => if c x then [] else G x).length = (l.filter fun x => !c x).length * v
 | [], _ => by simp
 | a :: l, h => by
  have ih := len_flat_if (c := c) (G := G) (v := v) (l := l) (fun x hx => h x (List.mem_cons_of_mem _ hx))
  rw [List.flatMap_cons, List.length_append, ih, List.filter_cons]
  cases hc : c a with
  | true => simp
  | false =>
   have := h a (by simp) hc
   simp only [Bool.false_eq_true, if_false, Bool.not_false, if_true, List.length_cons]
   rw [this, Nat.add_mul, Nat.one_mul, Nat.add_comm]
theorem not_in_len {n : Nat} {b : List Int} (hb : Begins n b) : ((List.range n).filter fun (x : Nat) => !hasB b (x : Int)).length + b.length = n := by
 have h1 := filter_split (fun (x : Nat) => hasB b (x : Int)) (List.range n)
 rw [List.length_range] at h1
 have h2 : ((List.range n).filter fun (x : Nat) => hasB b (x : Int)).length = b.length := by
  have e : (((List.range n).filter fun (x : Nat) => hasB b (x : Int)).map Int.ofNat).length = ((List.range n).filter fun (x : Nat) => hasB b (x : Int)).length := List.length_map ..
  have hn : (((List.range n).filter fun (x : Nat) => hasB b (x : Int)).map Int.ofNat).Nodup :=
   List.pairwise_map.2 ((List.Nodup.sublist List.filter_sublist List.nodup_range).imp fun {a c} hne e => hne (by have e' : (a : Int) = (c : Int) := e; omega))
  have a1 := nodup_len hn (m := b) (fun x hx => by
   obtain ⟨y, hy, rfl⟩ := List.mem_map.1 hx
   exact hasB_mem.1 (List.mem_filter.1 hy).2)
  have a2 := nodup_len hb.1 (m := ((List.range n).filter fun (x : Nat) => hasB b (x : Int)).map Int.ofNat) (fun x hx => by
   have := hb.2 x hx
   have hxn : ((x.toNat : Nat) : Int) = x := Int.toNat_of_nonneg this.1
   exact List.mem_map.2 ⟨x.toNat, List.mem_filter.2 ⟨List.mem_range.2 (by omega), by rw [hxn]; exact hasB_mem.2 hx⟩, hxn⟩)
  omega
 omega
theorem permsF_len {n : Nat} : ∀ (f : Nat) (b : List Int), Begins n b → b.length + f = n → (permsF n f b).length = facN f
 | 0, b, _, _ => rfl
 | f + 1, b, hb, hf => by
  have h2 := not_in_len hb
  simp only [permsF]
  rw [len_flat_if (v := facN f) (fun x hx hc => permsF_len f _ (by
   have hnb : (x : Int) ∉ b := fun hm => by rw [hasB_mem.2 hm] at hc; cases hc
   refine ⟨List.nodup_append.2 ⟨hb.1, by simp, fun y hy z hz e => ?_⟩, fun y hy => ?_⟩
   ·obtain rfl := List.mem_singleton.1 hz
    subst e
    exact hnb hy
   ·rcases List.mem_append.1 hy with hy | hy
    ·exact hb.2 y hy
    ·obtain rfl := List.mem_singleton.1 hy
     have := List.mem_range.1 hx
     omega) (by simp; omega))]
  simp only [facN]
  congr 1
  omega
theorem permsL_len (n : Nat) : (permsL n).length = facN n := permsF_len n [] ⟨List.nodup_nil, fun x h => by cases h⟩ (by simp)
end Go.Proofs.YteiaeaciaglmgaaGreat
namespace Go.Proofs.YteiaeaciaglmgaaGreat
/-- the same senders and lots; what is known may differ -/
structure Like (f g : Flow) : Prop where
 snd : g.senders = f.senders
 len : g.lots.length = f.lots.length
 ins : ∀ j, (lotAt g.lots j).ins = (lotAt f.lots j).ins
theorem Like.before {f g : Flow} (h : Like f g) : ∀ k, beforeI g k = beforeI f k
 | 0 => h.snd
 | k + 1 => by simp only [beforeI, h.before k, h.ins]
theorem Like.gone {f g : Flow} (h : Like f g) (x : Int) : ∀ k, goneB g x k = goneB f x k
 | 0 => rfl
 | k + 1 => by simp only [goneB, h.gone x k, h.ins]
end Go.Proofs.YteiaeaciaglmgaaGreat
namespace Go.Proofs.YteiaeaciaglmgaaGreat
theorem unk_is {f : Flow} {s : Int} : ∀ {m : Nat}, 0 ≤ unkTo f s m → ∃ j, j < m ∧ unkTo f s m = (j : Int) ∧ (lotAt f.lots j).known = false
 | 0, h => by simp [unkTo] at h
 | m + 1, h => by
  by_cases h1 : 0 ≤ unkTo f s m
  ·obtain ⟨j, a, b, c⟩ := unk_is h1
   exact ⟨j, by omega, by rw [unkTo_stay h1 (by omega), b], c⟩
  ·simp only [unkTo] at h ⊢
   rw [if_neg h1] at h ⊢
   split
   ·rename_i hb
    rw [Bool.and_eq_true, Bool.not_eq_true'] at hb
    exact ⟨m, by omega, rfl, hb.2⟩
   ·rename_i hb
    rw [if_neg hb] at h
    omega
/-- where the letter of each sender is in the end -/
def mapL (f : Flow) : List Int := (List.range f.senders.toNat).map fun (s : Nat) => spotAt f (s : Int) f.lots.length
end Go.Proofs.YteiaeaciaglmgaaGreat
namespace Go.Proofs.YteiaeaciaglmgaaGreat
open Go.RowKit
/-- what an iterator value promises: its n elements are handed to yield in order; D: the blocks that it leans on; what it hands over may say from which block on it lies -/
def IterB (P : Program) (gf : FuncId) (lb : Array Value) (n : Nat) (enc : Nat → Nat → World → Array Value → Prop) (D : Nat → Prop) (w : World) : Prop :=
 ∀ (l : Nat) (ob : Nat → Prop) (W : World) (J Jx : Nat → Nat → World → Prop),
  Turned (fun k => ¬ D k) w W → (∀ k, ob k → k < W.heap.size ∧ ¬ D k) →
  (∀ s i A B, W.heap.size ≤ s → J s i A → Turned (fun k => W.heap.size ≤ k ∧ k < s) A B → J s i B) →
  (∀ s i A B, W.heap.size ≤ s → Jx s i A → Turned (fun k => W.heap.size ≤ k ∧ k < s) A B → Jx s i B) →
  (∀ s W1, W.heap.size ≤ s → s ≤ W1.heap.size → Below W.heap.size W W1 → J s 0 W1) →
  (∀ s i W1 args, W.heap.size ≤ s → s ≤ W1.heap.size → i < n → J s i W1 → enc W.heap.size i W1 args → YieldAt Fence.wide 9 P l args W1 fun e W' =>
   (e = .returned (.bool true) ∧ J s (i + 1) W' ∧ Turned (fun k => ob k ∨ s ≤ k) W1 W') ∨ (e = .returned (.bool false) ∧ Jx s i W' ∧ Turned (fun k => ob k ∨ s ≤ k) W1 W')) →
  CallsIn Fence.wide 10 P gf (#[.func (.yield l) #[] #[]] ++ lb) W fun e W' => (∃ v, e = .returned v) ∧ ∃ s, W.heap.size ≤ s ∧ s ≤ W'.heap.size ∧ (J s n W' ∨ ∃ i, i < n ∧ Jx s i W')
/-- the rule for a loop over a function -/
theorem range_lawB {P : Program} {g : Operand} {ps : Array Tmp} {assign body : Code} {Q : Exit → Act → World → Prop} {a : Act} {w : World}
  {gf : FuncId} {lb : Array Value} (hg : a.eval g = .func (.func gf) #[] lb) (eg : Enters P gf) {n : Nat} {enc : Nat → Nat → World → Array Value → Prop} {D : Nat → Prop} {w0 : World} (hseq : IterB P gf lb n enc D w0)
  (hw0 : Turned (fun k => ¬ D k) w0 w) (hD : ∀ k, D k → k < w0.heap.size) (ob : Nat → Prop) (hob : ∀ k, ob k → k < w.heap.size ∧ ¬ D k)
  (hps : ∀ i W args, enc (w.heap.size + 2) i W args → args.size = ps.size)
  (I : Nat → Nat → World → Prop) (Ix : Code → Nat → Nat → World → Prop)
  (hI : ∀ s i A B, w.heap.size ≤ s → I s i A → Turned (fun k => w.heap.size ≤ k ∧ k < s) A B → I s i B)
  (hIx : ∀ c s i A B, w.heap.size ≤ s → Ix c s i A → Turned (fun k => w.heap.size ≤ k ∧ k < s) A B → Ix c s i B)
  (h0 : ∀ s W1, w.heap.size ≤ s → s ≤ W1.heap.size → Below w.heap.size w W1 → I s 0 W1)
  (hround : ∀ (l s i : Nat) (W : World) (args : Array Value), w.heap.size + 2 ≤ s → s ≤ W.heap.size → i < n → I s i W → enc (w.heap.size + 2) i W args →
   assign.wpIn (Fence.wide.inRound l) 9 P (Exit.then (fun a₁ W₁ => Below W.heap.size W W₁ ∧ ∀ W₂, Turned (fun k => w.heap.size ≤ k ∧ k < w.heap.size + 2) W₁ W₂ → body.wpIn (Fence.wide.inRound l) 9 P (rndPost ob I Ix s i W₂) a₁ W₂) (fun _ _ _ => False)) { tmps := (ps.zip args).foldl (fun t (p, v) => t.setIfInBounds p v) a.tmps, defers := [] } W)
  (hdone : ∀ (d s : Nat) (W : World), w.heap.size ≤ d → d < s → s ≤ W.heap.size → I s n W → W.heap[d]? = some (.deferred (some [])) → Q .normal { a with defers := { target := .collected d, args := #[] } :: a.defers } W)
  (hstop : ∀ (d s i : Nat) (c : Code) (W : World), w.heap.size ≤ d → d < s → s ≤ W.heap.size → i < n → Ix c s i W → W.heap[d]? = some (.deferred (some [])) → c.wpIn Fence.wide 11 P Q { a with defers := { target := .collected d, args := #[] } :: a.defers } W) :
  (Code.rangeFunc g ps assign body).wpIn Fence.wide 11 P Q a w := by
 refine wpIn_rangeFunc ?_
 intro fn hfn
 obtain ⟨rec, hrec⟩ : ∃ rec : LoopState → Option Code → Loop, rec = fun st pe => { state := st, pending := pe, fn, tmps := a.tmps, params := ps, assign, body, defers := w.heap.size } := ⟨_, rfl⟩
 obtain ⟨W1, hW1⟩ : ∃ W1, (w.alloc (.deferred (some []))).alloc (.loop (rec .ready none)) = W1 := ⟨_, rfl⟩
 have hL1 : W1.heap[w.heap.size + 1]? = some (.loop (rec .ready none)) := by
  rw [← hW1]; have := World.alloc_heap_new (w.alloc (.deferred (some []))) (.loop (rec .ready none)); rwa [World.size_alloc] at this
 have hK1 : W1.heap[w.heap.size]? = some (.deferred (some [])) := by
  rw [← hW1]; exact (Below.heap_alloc _ _ _ (by simp)).trans (World.alloc_heap_new w _)
 have hb1 : Below w.heap.size w W1 := by
  rw [← hW1]; exact ((Below.refl _ w).alloc (Nat.le_refl _) _).alloc (by simp) _
 have hs1 : W1.heap.size = w.heap.size + 2 := by rw [← hW1]; simp
 refine ⟨w.heap.size + 1, [{ target := .collected w.heap.size, args := #[] }], W1, { target := .fn (.func gf) lb, args := #[.func (.yield (w.heap.size + 1)) #[] #[]] }, W1, gf,
  #[.func (.yield (w.heap.size + 1)) #[] #[]] ++ lb, W1, ?_, ?_, ?_, ?_, fun _ => by omega, ?_⟩
 ·rw [← hW1, hrec]; exact run_enterLoop_outer _ _ _ _ _
 ·simp only [resolve, hg]
  simp [go_sem]
 ·intro f' _; trivial
 ·simp [invoke, go_sem]; exact eg _ _
 ·
  have stay : ∀ {s : Nat} {A B : World}, W1.heap.size ≤ s → Turned (fun k => W1.heap.size ≤ k ∧ k < s) A B → ∀ {k : Nat} {o : Obj}, k < w.heap.size + 2 → A.heap[k]? = some o → B.heap[k]? = some o := by
   intro s A B hs ht k o hk ho
   exact (ht.block k (Array.getElem?_eq_some_iff.1 ho).1 (by omega)).trans ho
  refine (hseq (w.heap.size + 1) (fun k => ob k ∨ k = w.heap.size ∨ k = w.heap.size + 1) W1
   (fun s i W => s ≤ W.heap.size ∧ I s i W ∧ W.heap[w.heap.size + 1]? = some (.loop (rec .ready none)) ∧ W.heap[w.heap.size]? = some (.deferred (some [])))
   (fun s i W => s ≤ W.heap.size ∧ ∃ c, Ix c s i W ∧ W.heap[w.heap.size + 1]? = some (.loop (rec .done (some c))) ∧ W.heap[w.heap.size]? = some (.deferred (some [])))
   (hw0.trans (Turned.of_below hb1))
   (fun k hk => by
    rcases hk with hk | rfl | rfl
    ·exact ⟨by have := (hob k hk).1; omega, (hob k hk).2⟩
    ·exact ⟨by omega, fun hd => by have := hD _ hd; have := hw0.size; omega⟩
    ·exact ⟨by omega, fun hd => by have := hD _ hd; have := hw0.size; omega⟩)
   (fun s i A B hs hj ht => ⟨Nat.le_trans hj.1 ht.size, hI s i A B (by omega) hj.2.1 (ht.mono fun k _ hk => ⟨by omega, hk.2⟩), stay hs ht (by omega) hj.2.2.1, stay hs ht (by omega) hj.2.2.2⟩)
   (fun s i A B hs hj ht => by
    obtain ⟨h, c, hc, hl, hk⟩ := hj
    exact ⟨Nat.le_trans h ht.size, c, hIx c s i A B (by omega) hc (ht.mono fun k _ hk => ⟨by omega, hk.2⟩), stay hs ht (by omega) hl, stay hs ht (by omega) hk⟩)
   (fun s W2 hs hs2 hb2 => ⟨hs2, h0 s W2 (by omega) hs2 (hb1.trans (hb2.mono hb1.size)), (hb2.block _ (by omega)).trans hL1, (hb2.block _ (by omega)).trans hK1⟩)
   ?_).mono ?_
  ·
   rintro s i W args hs hsW hi ⟨_, hiI, hl, hk⟩ hen
   rw [hs1] at hen
   have hlt : w.heap.size + 1 < W.heap.size := (Array.getElem?_eq_some_iff.1 hl).1
   have hy := run_yield (P := P) (args := args) hl (by rw [hrec]; exact hps i W args hen)
   rw [hrec] at hy
   have hrd := hround (w.heap.size + 1) s i W args (by omega) hsW hi hiI hen
   refine ⟨fn, _, assign, body, hy, roundIn_of_wpIn hfn (wpIn_mono hrd ?_)⟩
   rintro e a2 W2 hq
   cases e with
   | normal =>
    obtain ⟨hb2, hbody⟩ := hq
    have hl2 := (hb2.block _ hlt).trans hl
    have hk2 := (hb2.block _ (by omega)).trans hk
    have hlt2 : w.heap.size + 1 < W2.heap.size := (Array.getElem?_eq_some_iff.1 hl2).1
    have hbz : Turned (fun k => w.heap.size ≤ k ∧ k < w.heap.size + 2) W2 (W2.putObj (w.heap.size + 1) (.loop { rec .ready none with state := .busy })) := Turned.putObj _ _ _ ⟨by omega, by omega⟩
    have hl3 : (W2.putObj (w.heap.size + 1) (.loop { rec .ready none with state := .busy })).heap[w.heap.size + 1]? = some (.loop { rec .ready none with state := .busy }) := World.putObj_heap_same hlt2
    have hk3 : (W2.putObj (w.heap.size + 1) (.loop { rec .ready none with state := .busy })).heap[w.heap.size]? = some (.deferred (some [])) := (World.putObj_heap_other (by omega)).trans hk2
    refine ⟨_, run_beginRound hl2 (by rw [hrec]), wpIn_mono (hbody _ hbz) ?_⟩
    have fin : ∀ (jump : Option Code) (W3 : World), Turned (fun k => ob k ∨ s ≤ k) (W2.putObj (w.heap.size + 1) (.loop { rec .ready none with state := .busy })) W3 →
      (Instr.endRound (w.heap.size + 1) jump).run P W3 = .ok (.bool jump.isNone) (W3.putObj (w.heap.size + 1) (.loop (rec (if jump.isNone then .ready else .done) jump))) ∧
      (W3.putObj (w.heap.size + 1) (.loop (rec (if jump.isNone then .ready else .done) jump))).heap[w.heap.size + 1]? = some (.loop (rec (if jump.isNone then .ready else .done) jump)) ∧
      (W3.putObj (w.heap.size + 1) (.loop (rec (if jump.isNone then .ready else .done) jump))).heap[w.heap.size]? = some (.deferred (some [])) ∧
      Turned (fun k => (ob k ∨ k = w.heap.size ∨ k = w.heap.size + 1) ∨ s ≤ k) W (W3.putObj (w.heap.size + 1) (.loop (rec (if jump.isNone then .ready else .done) jump))) ∧
      Turned (fun k => w.heap.size ≤ k ∧ k < s) W3 (W3.putObj (w.heap.size + 1) (.loop (rec (if jump.isNone then .ready else .done) jump))) ∧ s ≤ W3.heap.size := fun jump W3 ht => by
     have nob : ∀ {k : Nat}, w.heap.size ≤ k → ¬ ob k := fun hk hx => by have := (hob _ hx).1; omega
     have q1 := (ht.block _ (by simpa using hlt2) (by rintro (h | h); exact nob (by omega) h; omega)).trans hl3
     have q2 := (ht.block _ (by simp; omega) (by rintro (h | h); exact nob (by omega) h; omega)).trans hk3
     have := run_endRound (P := P) jump q1
     have hz3 := ht.size
     simp at hz3
     have hz2 := hb2.size
     rw [hrec] at this ⊢
     refine ⟨this, World.putObj_heap_same (Array.getElem?_eq_some_iff.1 q1).1, (World.putObj_heap_other (by omega)).trans q2, ?_, Turned.putObj _ _ _ ⟨by omega, by omega⟩, by omega⟩
     have t1 : Turned (fun k => (ob k ∨ k = w.heap.size ∨ k = w.heap.size + 1) ∨ s ≤ k) W W2 := Turned.of_below hb2
     have t2 : Turned (fun k => (ob k ∨ k = w.heap.size ∨ k = w.heap.size + 1) ∨ s ≤ k) W2 (W2.putObj (w.heap.size + 1) (.loop { rec .ready none with state := .busy })) := hbz.mono fun k _ hk => by omega
     have t3 : Turned (fun k => (ob k ∨ k = w.heap.size ∨ k = w.heap.size + 1) ∨ s ≤ k) (W2.putObj (w.heap.size + 1) (.loop { rec .ready none with state := .busy })) W3 := ht.mono fun k _ hk => by
      rcases hk with hk | hk
      ·exact Or.inl (Or.inl hk)
      ·exact Or.inr hk
     rw [hrec] at t2 t3
     exact t1.trans (t2.trans (t3.trans (Turned.putObj _ _ _ (by omega))))
    rintro e a3 W3 hp
    cases e with
    | normal =>
     obtain ⟨ht3, hi3⟩ := hp
     obtain ⟨hr, hl4, hk4, ht4, ht5, hs3⟩ := fin none W3 ht3
     exact ⟨_, _, hr, .inl ⟨rfl, ⟨by simpa using hs3, hI s (i + 1) _ _ (by omega) hi3 ht5, hl4, hk4⟩, ht4⟩⟩
    | ret =>
     obtain ⟨ht3, hi3⟩ := hp
     obtain ⟨hr, hl4, hk4, ht4, ht5, hs3⟩ := fin (some .ret) W3 ht3
     exact ⟨_, _, hr, .inr ⟨rfl, ⟨by simpa using hs3, .ret, hIx _ s i _ _ (by omega) hi3 ht5, hl4, hk4⟩, ht4⟩⟩
    | exit id =>
     obtain ⟨ht3, hi3⟩ := hp
     obtain ⟨hr, hl4, hk4, ht4, ht5, hs3⟩ := fin (some (.exit id)) W3 ht3
     exact ⟨_, _, hr, .inr ⟨rfl, ⟨by simpa using hs3, .exit id, hIx _ s i _ _ (by omega) hi3 ht5, hl4, hk4⟩, ht4⟩⟩
    | goto t =>
     obtain ⟨ht3, hi3⟩ := hp
     obtain ⟨hr, hl4, hk4, ht4, ht5, hs3⟩ := fin (some (.goto t)) W3 ht3
     exact ⟨_, _, hr, .inr ⟨rfl, ⟨by simpa using hs3, .goto t, hIx _ s i _ _ (by omega) hi3 ht5, hl4, hk4⟩, ht4⟩⟩
    | panic ch => exact hp.elim
    | outgrown => exact hp.elim
   | ret => exact hq
   | exit id => exact hq
   | goto t => exact hq
   | panic ch => exact hq
   | outgrown => exact hq
  ·
   rintro e W2 ⟨⟨v, rfl⟩, s, hs, hsW, (⟨_, hi, hl, hk⟩ | ⟨i, hin, _, c, hi, hl, hk⟩)⟩
   ·have ht : Turned (fun k => w.heap.size ≤ k ∧ k < s) W2 (W2.putObj (w.heap.size + 1) (.loop { rec .ready none with state := .exhausted })) := Turned.putObj _ _ _ ⟨by omega, by omega⟩
    exact ⟨none, _, by have := run_endLoop (P := P) hl (by rw [hrec]; simp); rw [hrec] at this; exact this, hdone _ s _ (Nat.le_refl _) (by omega) (by simpa using hsW) (hI s n _ _ (by omega) hi (by rw [hrec] at ht; exact ht)) ((World.putObj_heap_other (by omega)).trans hk)⟩
   ·have ht : Turned (fun k => w.heap.size ≤ k ∧ k < s) W2 (W2.putObj (w.heap.size + 1) (.loop { rec .done (some c) with state := .exhausted })) := Turned.putObj _ _ _ ⟨by omega, by omega⟩
    exact ⟨some c, _, by have := run_endLoop (P := P) hl (by rw [hrec]; simp); rw [hrec] at this; exact this, hstop _ s i c _ (Nat.le_refl _) (by omega) (by simpa using hsW) hin (hIx c s i _ _ (by omega) hi (by rw [hrec] at ht; exact ht)) ((World.putObj_heap_other (by omega)).trans hk)⟩
end Go.Proofs.YteiaeaciaglmgaaGreat
namespace Go.Proofs.YteiaeaciaglmgaaGreat
open Go.RowKit
/-- the list M stands in L from place i on -/
def StandsAt (L : List (List Int)) (i : Nat) (M : List (List Int)) : Prop := ∃ A C, L = A ++ (M ++ C) ∧ A.length = i
theorem StandsAt.one {L : List (List Int)} {i : Nat} {b : List Int} (h : StandsAt L i [b]) : i < L.length ∧ L.getD i [] = b := by
 obtain ⟨A, C, rfl, rfl⟩ := h
 constructor
 ·simp
 ·rw [List.getD_eq_getElem?_getD]
  simp
/-- v reads as the numbers xs, all cells in blocks of the kind X -/
def IsIntsX (X : Nat → Prop) (w : World) (v : Value) (xs : List Int) : Prop :=
 ∃ b off cap, SliceV v xs.length b off cap ∧ xs.length ≤ 17592186043904 ∧ (∀ x ∈ xs, I64 x) ∧
  ∀ j, j < xs.length → X b ∧ b < w.heap.size ∧ w.cell? ⟨b, off + j, none⟩ = some (.int .i64 (nth xs j))
theorem IsIntsX.turned {X Y : Nat → Prop} {w w' : World} {v : Value} {xs : List Int} (h : IsIntsX X w v xs) (ht : Turned Y w w') (hx : ∀ k, X k → ¬ Y k) : IsIntsX X w' v xs := by
 obtain ⟨b, off, cap, h1, h2, h3, h4⟩ := h
 refine ⟨b, off, cap, h1, h2, h3, fun j hj => ?_⟩
 obtain ⟨a, c, d⟩ := h4 j hj
 exact ⟨a, by have := ht.size; omega, (ht.cell (p := ⟨b, off + j, none⟩) c (hx b a)).trans d⟩
theorem IsIntsX.mono {X Y : Nat → Prop} {w : World} {v : Value} {xs : List Int} (h : IsIntsX X w v xs) (hxy : ∀ k, X k → Y k) : IsIntsX Y w v xs := by
 obtain ⟨b, off, cap, h1, h2, h3, h4⟩ := h
 exact ⟨b, off, cap, h1, h2, h3, fun j hj => ⟨hxy _ (h4 j hj).1, (h4 j hj).2⟩⟩
theorem IsInts.kind {B : Nat} {w : World} {v : Value} {xs : List Int} (h : IsInts B w v xs) (hB : B ≤ w.heap.size) {X : Nat → Prop} (hX : ∀ k, k < B → X k) : IsIntsX X w v xs := by
 obtain ⟨b, off, cap, h1, h2, h3, h4⟩ := h
 exact ⟨b, off, cap, h1, h2, h3, fun j hj => ⟨hX _ (h4 j hj).1, by have := (h4 j hj).1; omega, (h4 j hj).2⟩⟩
/-- block pa holds the numbers b, with room for n -/
def RowAt (B0 pa n : Nat) (b : List Int) (W : World) : Prop := W.ownsRow B0 3 1 (.slice (some ⟨pa, 0, none⟩) b.length n) b.length (b.map (Value.int .i64))
theorem RowAt.turned {B0 pa n : Nat} {b : List Int} {W W' : World} {X : Nat → Prop} (h : RowAt B0 pa n b W) (ht : Turned X W W') (hx : ¬ X pa) : RowAt B0 pa n b W' := by
 refine ⟨h.1, ?_⟩
 rcases h.2 with ⟨hn, _⟩ | ⟨g, cap, cur, hv, hb, hg, rest⟩
 ·cases hn
 ·cases hv
  exact Or.inr ⟨pa, n, cur, rfl, hb, (ht.block pa (Array.getElem?_eq_some_iff.1 hg).1 hx).trans hg, rest⟩
theorem RowAt.cut {B0 pa n : Nat} {b : List Int} {x : Int} {W : World} (h : RowAt B0 pa n (b ++ [x]) W) : RowAt B0 pa n b W := by
 refine ⟨by simp, ?_⟩
 rcases h.2 with ⟨hn, _⟩ | ⟨g, cap, cur, hv, hb, hg, h1, h2, h3, h4⟩
 ·cases hn
 ·cases hv
  refine Or.inr ⟨pa, n, cur, rfl, hb, hg, by simp at h1; omega, h2, h3, ?_⟩
  have e := congrArg (List.take b.length) h4
  rw [List.take_take] at e
  simp only [List.length_append, List.length_cons, List.length_nil, Nat.zero_add, Nat.mul_one] at e ⊢
  rw [show min b.length (b.length + 1) = b.length by omega] at e
  rw [e]
  simp
theorem RowAt.lt {B0 pa n : Nat} {b : List Int} {W : World} (h : RowAt B0 pa n b W) : pa < W.heap.size ∧ b.length ≤ n := by
 rcases h.2 with ⟨hn, _⟩ | ⟨g, cap, cur, hv, hb, hg, h1, h2, h3, h4⟩
 ·cases hn
 ·cases hv
  exact ⟨(Array.getElem?_eq_some_iff.1 hg).1, h1⟩
end Go.Proofs.YteiaeaciaglmgaaGreat
namespace Go.Proofs.YteiaeaciaglmgaaGreat
open Go.RowKit
def updV (xs : Nat → Value) (i : Nat) (v : Value) : Nat → Value := fun j => if j = i then v else xs j
theorem updV_self (xs : Nat → Value) (i : Nat) (v : Value) : updV xs i v i = v := by unfold updV; rw [if_pos rfl]
theorem updV_ne {xs : Nat → Value} {i j : Nat} {v : Value} (h : j ≠ i) : updV xs i v j = xs j := by unfold updV; rw [if_neg h]
theorem une (xs : Nat → Value) (j i : Nat) {v : Value} (h : (j == i) = false) : updV xs i v j = xs j := updV_ne (fun e => by subst e; simp at h)
theorem cstE {a : Act} {ρ : Operand → Value} (h : a.eval = ρ) : ∀ v, ρ (.const v) = v := fun v => (congrFun h (.const v)).symm
theorem getD_setIf {l : Array Value} {d t : Nat} {v : Value} (hd : d < l.size) : (l.setIfInBounds d v).getD t undef = if t = d then v else l.getD t undef := by
 rw [Array.getD_eq_getD_getElem?, Array.getD_eq_getD_getElem?]
 by_cases h : t = d
 ·subst h
  rw [if_pos rfl]
  simp [hd]
 ·rw [if_neg h, Array.getElem?_setIfInBounds_ne (fun e => h e.symm)]
/-- two frames are one if all their slots are -/
theorem act_ext {a b : Act} (hd : a.defers = b.defers) (hs : a.tmps.size = b.tmps.size) (h : ∀ t, t < b.tmps.size → a.tmps.getD t undef = b.tmps.getD t undef) : a = b := by
 obtain ⟨x, y⟩ := a
 obtain ⟨x', y'⟩ := b
 simp only at hd hs h
 subst hd
 congr 1
 apply Array.ext hs
 intro i h1 h2
 have := h i h2
 rw [Array.getD_eq_getD_getElem?, Array.getD_eq_getD_getElem?, Array.getElem?_eq_getElem h1, Array.getElem?_eq_getElem h2] at this
 exact this
end Go.Proofs.YteiaeaciaglmgaaGreat
namespace Go.Proofs.YteiaeaciaglmgaaGreat
open Go.RowKit
def dsInj : List (Option Nat) → Bool
 | [] => true
 | none :: r => dsInj r
 | some d :: r => !(r.contains (some d)) && dsInj r
def dsBd (n : Nat) : List (Option Nat) → Bool
 | [] => true
 | none :: r => dsBd n r
 | some d :: r => decide (d < n) && dsBd n r
theorem dsInj_at : ∀ {ds : List (Option Nat)}, dsInj ds = true → ∀ {i j d : Nat}, ds[i]? = some (some d) → ds[j]? = some (some d) → i = j
 | [], _, i, j, d, h, _ => by simp at h
 | none :: r, hi, 0, j, d, h, _ => by simp at h
 | none :: r, hi, i + 1, 0, d, _, h => by simp at h
 | none :: r, hi, i + 1, j + 1, d, h1, h2 => by
  have := dsInj_at (ds := r) hi (i := i) (j := j) (d := d) (by simpa using h1) (by simpa using h2)
  omega
 | some e :: r, hi, 0, 0, d, _, _ => rfl
 | some e :: r, hi, 0, j + 1, d, h1, h2 => by
  simp only [dsInj, Bool.and_eq_true, Bool.not_eq_true', List.contains_eq_mem, decide_eq_false_iff_not] at hi
  have e1 : e = d := by simpa using h1
  subst e1
  exact absurd (List.mem_of_getElem? (by simpa using h2)) hi.1
 | some e :: r, hi, i + 1, 0, d, h1, h2 => by
  simp only [dsInj, Bool.and_eq_true, Bool.not_eq_true', List.contains_eq_mem, decide_eq_false_iff_not] at hi
  have e1 : e = d := by simpa using h2
  subst e1
  exact absurd (List.mem_of_getElem? (by simpa using h1)) hi.1
 | some e :: r, hi, i + 1, j + 1, d, h1, h2 => by
  simp only [dsInj, Bool.and_eq_true] at hi
  have := dsInj_at (ds := r) hi.2 (i := i) (j := j) (d := d) (by simpa using h1) (by simpa using h2)
  omega
theorem dsBd_at : ∀ {ds : List (Option Nat)} {n : Nat}, dsBd n ds = true → ∀ {i d : Nat}, ds[i]? = some (some d) → d < n
 | [], n, _, i, d, h => by simp at h
 | none :: r, n, hi, 0, d, h => by simp at h
 | none :: r, n, hi, i + 1, d, h => dsBd_at (ds := r) hi (by simpa using h)
 | some e :: r, n, hi, 0, d, h => by
  simp only [dsBd, Bool.and_eq_true, decide_eq_true_eq] at hi
  have e1 : e = d := by simpa using h
  subst e1
  exact hi.1
 | some e :: r, n, hi, i + 1, d, h => by
  simp only [dsBd, Bool.and_eq_true] at hi
  exact dsBd_at (ds := r) hi.2 (by simpa using h)
/-- the frame a0 in which the done operations have put xs into their slots -/
structure FrameV (a0 : Act) (ds : List (Option Nat)) (L : Nat → Bool) (xs : Nat → Value) (a : Act) : Prop where
 defers : a.defers = a0.defers
 size : a.tmps.size = a0.tmps.size
 slot : ∀ i d, ds[i]? = some (some d) → L i = true → a.tmps.getD d undef = xs i
 out : ∀ t, ds.contains (some t) = false → a.tmps.getD t undef = a0.tmps.getD t undef
 rest : ∀ i d, ds[i]? = some (some d) → L i = false → a.tmps.getD d undef = a0.tmps.getD d undef
theorem FrameV.start (a0 : Act) (ds : List (Option Nat)) (xs : Nat → Value) : FrameV a0 ds (fun _ => false) xs a0 := ⟨rfl, rfl, (fun _ _ _ h => by cases h), (fun _ _ => rfl), (fun _ _ _ _ => rfl)⟩
theorem FrameV.put {a0 a : Act} {ds : List (Option Nat)} {L : Nat → Bool} {xs : Nat → Value} (h : FrameV a0 ds L xs a) (hi : dsInj ds = true) (hn : dsBd a0.tmps.size ds = true) {i : Nat} {o : Option Nat} (hd : ds[i]? = some o) (v : Value) : FrameV a0 ds (upd L i) (updV xs i v) (a.put o v) := by
 cases o with
 | none =>
  refine ⟨h.defers, h.size, fun j d hj hL => ?_, h.out, fun j d hj hL => ?_⟩
  ·have hne : j ≠ i := fun e => by subst e; rw [hd] at hj; cases hj
   rw [updV_ne hne]
   refine h.slot j d hj ?_
   unfold upd at hL
   simpa [hne] using hL
  ·refine h.rest j d hj ?_
   unfold upd at hL
   simp at hL
   exact hL.2
 | some d =>
  have hlt : d < a.tmps.size := by rw [h.size]; exact dsBd_at hn hd
  refine ⟨h.defers, ?_, fun j e hj hL => ?_, fun t ht => ?_, fun j e hj hL => ?_⟩
  ·show (a.tmps.setIfInBounds d v).size = _
   rw [Array.size_setIfInBounds, h.size]
  ·show (a.tmps.setIfInBounds d v).getD e undef = _
   rw [getD_setIf hlt]
   by_cases hne : j = i
   ·subst hne
    rw [hd] at hj
    obtain rfl : d = e := by injection hj with hj; injection hj
    rw [if_pos rfl, updV_self]
   ·rw [if_neg (fun e1 => hne (dsInj_at hi hj (by rw [e1]; exact hd))), updV_ne hne]
    refine h.slot j e hj ?_
    unfold upd at hL
    simpa [hne] using hL
  ·show (a.tmps.setIfInBounds d v).getD t undef = _
   rw [getD_setIf hlt, if_neg, h.out t ht]
   rintro rfl
   have := List.mem_of_getElem? hd
   simp only [List.contains_eq_mem, decide_eq_false_iff_not] at ht
   exact ht this
  ·show (a.tmps.setIfInBounds d v).getD e undef = _
   unfold upd at hL
   simp at hL
   rw [getD_setIf hlt, if_neg (fun e1 => hL.1 (dsInj_at hi hj (by rw [e1]; exact hd)))]
   exact h.rest j e hj hL.2
/-- the value of a done operation's slot -/
theorem FrameV.ev {a0 a : Act} {ds : List (Option Nat)} {L : Nat → Bool} {xs : Nat → Value} (h : FrameV a0 ds L xs a) (i : Nat) {d : Nat} (hd : ds[i]? = some (some d)) (hL : L i = true) : a.eval (.tmp d) = xs i := h.slot i d hd hL
/-- a slot that is none of the region's -/
theorem FrameV.lo {a0 a : Act} {ds : List (Option Nat)} {L : Nat → Bool} {xs : Nat → Value} (h : FrameV a0 ds L xs a) (t : Nat) (ht : ds.contains (some t) = false) : a.eval (.tmp t) = a0.eval (.tmp t) := h.out t ht
def putGo (xs : Nat → Value) : Nat → List (Option Nat) → Act → Act
 | _, [], a => a
 | k, d :: r, a => putGo xs (k + 1) r (a.put d (xs k))
theorem put_size (a : Act) (o : Option Nat) (v : Value) : (a.put o v).tmps.size = a.tmps.size := by
 cases o with
 | none => rfl
 | some d => show (a.tmps.setIfInBounds d v).size = _; rw [Array.size_setIfInBounds]
theorem put_defers (a : Act) (o : Option Nat) (v : Value) : (a.put o v).defers = a.defers := by cases o <;> rfl
theorem putGo_size (xs : Nat → Value) : ∀ (ds : List (Option Nat)) (k : Nat) (a : Act), (putGo xs k ds a).tmps.size = a.tmps.size ∧ (putGo xs k ds a).defers = a.defers
 | [], k, a => ⟨rfl, rfl⟩
 | d :: r, k, a => by
  obtain ⟨h1, h2⟩ := putGo_size xs r (k + 1) (a.put d (xs k))
  exact ⟨h1.trans (put_size _ _ _), h2.trans (put_defers _ _ _)⟩
theorem putGo_at (xs : Nat → Value) : ∀ (ds : List (Option Nat)) (k : Nat) (a : Act), dsInj ds = true → dsBd a.tmps.size ds = true → ∀ t,
  (∀ i, ds[i]? = some (some t) → (putGo xs k ds a).tmps.getD t undef = xs (k + i)) ∧ (ds.contains (some t) = false → (putGo xs k ds a).tmps.getD t undef = a.tmps.getD t undef)
 | [], k, a, _, _, t => ⟨fun i h => by simp at h, fun _ => rfl⟩
 | none :: r, k, a, hi, hn, t => by
  obtain ⟨h1, h2⟩ := putGo_at xs r (k + 1) (a.put none (xs k)) hi hn t
  refine ⟨fun i h => ?_, fun h => ?_⟩
  ·match i, h with
   | 0, h => simp at h
   | i + 1, h => rw [show k + (i + 1) = k + 1 + i by omega]; exact h1 i (by simpa using h)
  ·exact h2 (by simpa using h)
 | some d :: r, k, a, hi, hn, t => by
  simp only [dsInj, Bool.and_eq_true, Bool.not_eq_true'] at hi
  have hd : d < a.tmps.size := by simp only [dsBd, Bool.and_eq_true, decide_eq_true_eq] at hn; exact hn.1
  have hn2 : dsBd (a.put (some d) (xs k)).tmps.size r = true := by rw [put_size]; simp only [dsBd, Bool.and_eq_true] at hn; exact hn.2
  obtain ⟨h1, h2⟩ := putGo_at xs r (k + 1) (a.put (some d) (xs k)) hi.2 hn2 t
  refine ⟨fun i h => ?_, fun h => ?_⟩
  ·match i, h with
   | 0, h =>
    obtain rfl : d = t := by simpa using h
    show (putGo xs (k + 1) r (a.put (some d) (xs k))).tmps.getD d undef = xs k
    rw [h2 hi.1]
    show (a.tmps.setIfInBounds d (xs k)).getD d undef = _
    rw [getD_setIf hd, if_pos rfl]
   | i + 1, h => rw [show k + (i + 1) = k + 1 + i by omega]; exact h1 i (by simpa using h)
  ·have h' : t ≠ d ∧ r.contains (some t) = false := by simpa using h
   show (putGo xs (k + 1) r (a.put (some d) (xs k))).tmps.getD t undef = _
   rw [h2 h'.2]
   show (a.tmps.setIfInBounds d (xs k)).getD t undef = _
   rw [getD_setIf hd, if_neg h'.1]
theorem FrameV.final {a0 a : Act} {ds : List (Option Nat)} {L : Nat → Bool} {xs : Nat → Value} (h : FrameV a0 ds L xs a) (hi : dsInj ds = true) (hn : dsBd a0.tmps.size ds = true) (hL : ∀ i, i < ds.length → L i = true) : a = putGo xs 0 ds a0 := by
 obtain ⟨s1, s2⟩ := putGo_size xs ds 0 a0
 refine act_ext (h.defers.trans s2.symm) (h.size.trans s1.symm) fun t _ => ?_
 obtain ⟨p1, p2⟩ := putGo_at xs ds 0 a0 hi hn t
 by_cases hc : ds.contains (some t) = true
 ·obtain ⟨i, hi'⟩ := List.getElem?_of_mem (by simpa using hc)
  rw [p1 i hi', h.slot i t hi' (hL i (List.getElem?_eq_some_iff.1 hi').1), Nat.zero_add]
 ·have hc' : ds.contains (some t) = false := by simpa using hc
  rw [p2 hc', h.out t hc']
section
variable {P : Program} {ops : Array Oper} {Q : Exit → Act → World → Prop}
def VStep (P : Program) (ops : Array Oper) (Q : Exit → Act → World → Prop) (ds : List (Option Nat)) (a0 : Act) (J : (Nat → Bool) → World → (Nat → Value) → Prop) (i : Nat) (o : Oper) : Prop :=
 ∀ (L : Nat → Bool) (a' : Act) (w' : World) (xs : Nat → Value), L i = false → allOn L (depsOf o) → FrameV a0 ds L xs a' → J L w' xs →
  ∀ K : Act → World → Prop, Shut (∀ v w'', J (upd L i) w'' (updV xs i v) → K (a'.put o.dst v) w'') → if Region.wanted o (yielded ops a'.tmps) = true then Oper.wp P o a' w' K Q else K (a'.put o.dst undef) w'
def VSteps (P : Program) (ops : Array Oper) (Q : Exit → Act → World → Prop) (ds : List (Option Nat)) (a0 : Act) (J : (Nat → Bool) → World → (Nat → Value) → Prop) : Nat → List Oper → Prop
 | _, [] => True
 | k, o :: r => VStep P ops Q ds a0 J k o ∧ VSteps P ops Q ds a0 J (k + 1) r
theorem VSteps.inv {ds : List (Option Nat)} {a0 : Act} {J : (Nat → Bool) → World → (Nat → Value) → Prop} (hi : dsInj ds = true) (hn : dsBd a0.tmps.size ds = true) : ∀ {l : List Oper} {k : Nat}, (∀ i o, l[i]? = some o → ds[k + i]? = some o.dst) → VSteps P ops Q ds a0 J k l →
  InvSteps P ops Q (fun L a' w' => ∃ xs, FrameV a0 ds L xs a' ∧ J L w' xs) k l
 | [], _, _, _ => trivial
 | o :: r, k, hd, h => by
  refine ⟨?_, VSteps.inv hi hn (fun i o' ho => ?_) h.2⟩
  ·intro L a' w' hL hdep hI K hK
   obtain ⟨xs, hf, hJ⟩ := hI
   exact h.1 L a' w' xs hL hdep hf hJ K (show ∀ v w'', J (upd L k) w'' (updV xs k v) → K (a'.put o.dst v) w'' from fun v w'' hJ' => hK.out _ _ ⟨_, hf.put hi hn (by simpa using hd 0 o rfl) v, hJ'⟩)
  ·have := hd (i + 1) o' (by simpa using ho)
   rw [show k + 1 + i = k + (i + 1) by omega]
   exact this
/-- a region whose order is drawn, by what its slots hold -/
theorem wp_region_V {id : Nat} {l : List Oper} {a : Act} {w : World} (ds : List (Option Nat)) (J : (Nat → Bool) → World → (Nat → Value) → Prop) (hm : P.follows .mixedOrders = true) (hb : backB 0 l = true) (hds : l.map (·.dst) = ds) (hi : dsInj ds = true) (hn : dsBd a.tmps.size ds = true)
  (h0 : ∀ xs, J (fun _ => false) w.drew xs) (hs : VSteps P l.toArray Q ds a J 0 l) (he : ∀ (L : Nat → Bool) w' xs, (∀ i, i < ds.length → L i = true) → J L w' xs → Q .normal (putGo xs 0 ds a) w') : (Code.region id l.toArray true).wp P Q a w := by
 have hlen : ds.length = l.length := by rw [← hds]; simp
 refine wp_region_inv (fun a0 L a' w' => ∃ xs, FrameV a0 ds L xs a' ∧ J L w' xs) hm hb ⟨fun _ => undef, FrameV.start _ _ _, h0 _⟩ (VSteps.inv hi hn (fun i o ho => ?_) hs) ?_
 ·rw [← hds, Nat.zero_add, List.getElem?_map, ho]; rfl
 ·rintro L a' w' hL ⟨xs, hf, hJ⟩
  rw [hf.final hi hn (fun i h => hL i (by omega))]
  exact he L w' xs (fun i h => hL i (by omega)) hJ
end
/-- values that are known ahead -/
def ValsAt (V : List (Option Value)) (L : Nat → Bool) (xs : Nat → Value) : Prop := ∀ j v, V[j]? = some (some v) → L j = true → xs j = v
theorem ValsAt.none (V : List (Option Value)) (xs : Nat → Value) : ValsAt V (fun _ => false) xs := fun _ _ _ h => by cases h
theorem ValsAt.set {V : List (Option Value)} {L : Nat → Bool} {xs : Nat → Value} (h : ValsAt V L xs) {i : Nat} {v : Value} (hv : V[i]? = some (some v)) : ValsAt V (upd L i) (updV xs i v) := fun j u hj hL => by
 by_cases e : j = i
 ·subst e
  rw [hj] at hv
  rw [updV_self]
  exact (Option.some.inj (Option.some.inj hv)).symm
 ·rw [updV_ne e]
  refine h j u hj ?_
  unfold upd at hL
  simpa [e] using hL
theorem ValsAt.free {V : List (Option Value)} {L : Nat → Bool} {xs : Nat → Value} (h : ValsAt V L xs) {i : Nat} (hv : V[i]? = some Option.none) (v : Value) : ValsAt V (upd L i) (updV xs i v) := fun j u hj hL => by
 by_cases e : j = i
 ·subst e
  rw [hj] at hv
  cases hv
 ·rw [updV_ne e]
  refine h j u hj ?_
  unfold upd at hL
  simpa [e] using hL
end Go.Proofs.YteiaeaciaglmgaaGreat
namespace Go.Proofs.YteiaeaciaglmgaaGreat
open Go.RowKit
/-- are the first k rows of two tables equal? -/
def sameMTo (a b : List (List Int)) : Nat → Bool
 | 0 => true
 | k + 1 => sameMTo a b k && sameB (rowAt a k) (rowAt b k)
def sameM (a b : List (List Int)) : Bool := decide (a = b)
theorem sameMTo_iff {a b : List (List Int)} : ∀ {k : Nat}, k ≤ a.length → k ≤ b.length → (sameMTo a b k = true ↔ a.take k = b.take k)
 | 0, _, _ => by simp [sameMTo]
 | k + 1, h1, h2 => by
  have e1 : rowAt a k = a[k] := by unfold rowAt; rw [List.getD_eq_getElem?_getD, List.getElem?_eq_getElem (by omega)]; rfl
  have e2 : rowAt b k = b[k] := by unfold rowAt; rw [List.getD_eq_getElem?_getD, List.getElem?_eq_getElem (by omega)]; rfl
  have ih := sameMTo_iff (a := a) (b := b) (k := k) (by omega) (by omega)
  simp only [sameMTo, Bool.and_eq_true, ih]
  rw [List.take_succ_eq_append_getElem (by omega), List.take_succ_eq_append_getElem (by omega), e1, e2]
  unfold sameB
  rw [decide_eq_true_eq]
  constructor
  ·rintro ⟨h, h'⟩; rw [h, h']
  ·intro h
   have := List.append_inj' h rfl
   exact ⟨this.1, by simpa using this.2⟩
theorem sameM_all {a b : List (List Int)} (hl : a.length = b.length) (h : sameMTo a b a.length = true) : sameM a b = true := by
 have := (sameMTo_iff (Nat.le_refl _) (by omega)).1 h
 rw [List.take_length, hl, List.take_length] at this
 exact decide_eq_true this
theorem sameM_not {a b : List (List Int)} {k : Nat} (h : sameB (rowAt a k) (rowAt b k) = false) : sameM a b = false := by
 refine decide_eq_false ?_
 rintro rfl
 unfold sameB at h
 simp at h
theorem sameM_len {a b : List (List Int)} (h : a.length ≠ b.length) : sameM a b = false := decide_eq_false fun e => h (by rw [e])
theorem OwnInts.cellAt {C : Nat} {w : World} {g n cap : Nat} {xs : List Int} (h : OwnInts C w (.slice (some ⟨g, 0, none⟩) n cap) xs) (hn : n = xs.length) {j : Nat} (hj : j < xs.length) : w.cell? ⟨g, j, none⟩ = some (.int .i64 (nth xs j)) := by
 subst hn
 rw [h.1.cellAt j (by omega), List.getElem?_map, List.getElem?_eq_getElem hj, nth_eq_getElem hj]
 rfl
theorem OwnInts.freeAt {C : Nat} {w : World} {g n cap : Nat} {xs : List Int} (h : OwnInts C w (.slice (some ⟨g, 0, none⟩) n cap) xs) (hn : n = xs.length) (j : Nat) : w.frozen? ⟨g, j, none⟩ = false := by
 subst hn
 exact h.1.frozenAt j
theorem OwnInts.store {C : Nat} {w : World} {g n cap : Nat} {xs : List Int} (h : OwnInts C w (.slice (some ⟨g, 0, none⟩) n cap) xs) (hn : n = xs.length) (j : Nat) {y : Int} (hy : I64 y) :
  OwnInts C (w.setCell ⟨g, j, none⟩ (.int .i64 y)) (.slice (some ⟨g, 0, none⟩) n cap) (xs.set j y) := by
 subst hn
 obtain ⟨h1, h2, h3⟩ := h
 have h4 := (h1.stored j (.int .i64 y)).1
 rw [show (xs.map (Value.int .i64)).set j (.int .i64 y) = (xs.set j y).map (Value.int .i64) by rw [List.map_set]] at h4
 refine ⟨by rw [List.length_set]; exact h4, by rw [List.length_set]; exact h2, fun x hx => ?_⟩
 rcases List.mem_or_eq_of_mem_set hx with hx | rfl
 ·exact h3 x hx
 ·exact hy
end Go.Proofs.YteiaeaciaglmgaaGreat
namespace Go.Proofs.YteiaeaciaglmgaaGreat
open Go.RowKit
theorem rowAt_get {rows : List (List Int)} {i : Nat} (h : i < rows.length) : rowAt rows i = rows[i] := by unfold rowAt; rw [List.getD_eq_getElem?_getD, List.getElem?_eq_getElem h]; rfl
/-- the rows of a table, each in blocks that are not the table's -/
def RowsAt (C : Nat) (W : World) (V : List Value) (rows : List (List Int)) : Prop := V.length = rows.length ∧ ∀ j, j < rows.length → OwnInts C W (valAt V j) (rowAt rows j)
theorem RowsAt.kept {C : Nat} {W W' : World} {V : List Value} {rows : List (List Int)} (h : RowsAt C W V rows) {B' n : Nat} {v : Value} {vals : List Value} (hv : W.ownsRow B' 25 1 v n vals) (hg : W.grownBy W' v.ownBlock) : RowsAt C W' V rows :=
 ⟨h.1, fun j hj => (h.2 j hj).kept hg ((h.2 j hj).apart hv)⟩
/-- append(m, row), and where the new table lies -/
theorem append_row_at {ops : Array Oper} {rest : List Oper} {o : Oper} {a : Act} {w : World} {Q : Exit → Act → World → Prop} (hgd : o.guard = none) (s x : Operand)
  (ho : o.op = .call { callee := .builtin .append, args := #[s, x], argTypes := #[35, 35] })
  {B : Nat} {v r : Value} {rows : List (List Int)} {xs : List Int} {g c : Nat} (hs : a.eval s = v) (hown : OwnMat B w v rows) (hx : a.eval x = .slice (some ⟨g, 0, none⟩) 1 c)
  (hg : w.cell? ⟨g, 0, none⟩ = some r) (hr : OwnInts B w r xs) (hlen : rows.length + 1 ≤ 5864062014634) (hB : B ≤ w.heap.size)
  (h : ∀ v' w', OwnMat B w' v' (rows ++ [xs]) → w.grownBy w' v.ownBlock → (v'.ownBlock = v.ownBlock ∨ v'.ownBlock = some w.heap.size) → wpList Tryz.prog ops Q rest (a.put o.dst v') w') : wpList Tryz.prog ops Q (o :: rest) a w := by
 obtain ⟨i0, hi, hz0, hz1, hz2⟩ := info_parts ints_info
 obtain ⟨vals, h1, h2, h3⟩ := hown
 obtain ⟨ar, cr, hrv, _⟩ := hr.form
 refine wpList_append_own_at w hgd s x 35 ho B 25 i0 (.slice none 0 0) 1 24 Tryz.underlying35 hi hz0 hz1 hz2 rfl (by decide) v rows.length vals hs h1 ⟨g, 0, none⟩ 1 c [r] hx rfl ?_ ?_ ?_ ?_ hB ?_
 ·intro j u hj
  match j, hj with
  | 0, hj => simp at hj; subst hj; simpa [Addr.add] using hg
 ·intro u hu; simp at hu; subst hu; rw [hrv]; rfl
 ·unfold maxLen; omega
 ·omega
 ·intro v' w' q1 q2 _ q4
  have hl : vals.length = rows.length := by have := h1.1; omega
  refine h v' w' ⟨vals ++ [r], by simpa using q1, by simpa using hlen, fun j hj => ?_⟩ q2 q4
  by_cases e : j < rows.length
  ·have e1 : valAt (vals ++ [r]) j = valAt vals j := by unfold valAt; rw [List.getD_eq_getElem?_getD, List.getD_eq_getElem?_getD, List.getElem?_append_left (by omega)]
   have e2 : rowAt (rows ++ [xs]) j = rowAt rows j := by unfold rowAt; rw [List.getD_eq_getElem?_getD, List.getD_eq_getElem?_getD, List.getElem?_append_left (by omega)]
   rw [e1, e2]
   exact (h3 j e).kept q2 ((h3 j e).apart h1)
  ·have e0 : j = rows.length := by simp at hj; omega
   have e1 : valAt (vals ++ [r]) j = r := by unfold valAt; rw [List.getD_eq_getElem?_getD, List.getElem?_append_right (by omega)]; simp [hl, e0]
   have e2 : rowAt (rows ++ [xs]) j = xs := by unfold rowAt; rw [List.getD_eq_getElem?_getD, List.getElem?_append_right (by omega)]; simp [e0]
   rw [e1, e2]
   exact hr.kept q2 (hr.apart h1)
end Go.Proofs.YteiaeaciaglmgaaGreat
namespace Go.Proofs.YteiaeaciaglmgaaGreat
open Go.RowKit
theorem OwnMat.one {C k : Nat} {w : World} {vb : Value} {b : List Int} (h : OwnInts C w vb b) (hk : k = w.heap.size) (hC : C ≤ w.heap.size) : OwnMat C (w.alloc (.cells #[vb] 25)) (.slice (some ⟨k, 0, none⟩) 1 1) [b] := by
 subst hk
 refine ⟨[vb], ⟨by simp, Or.inr ⟨w.heap.size, 1, #[vb], rfl, hC, heap_alloc_new w _, by simp, by unfold maxLen; omega, by simp, by simp⟩⟩, by simp, fun j hj => ?_⟩
 obtain rfl : j = 0 := by simp at hj; omega
 exact h.alloc _
theorem OwnMat.form {C : Nat} {w : World} {v : Value} {rows : List (List Int)} (h : OwnMat C w v rows) : ∃ a cap, v = .slice a rows.length cap ∧ (∀ k, v.ownBlock = some k → C ≤ k ∧ k < w.heap.size) := by
 obtain ⟨vals, h1, h2, h3⟩ := h
 obtain ⟨hl, h4⟩ := h1
 have hb : ∀ k, v.ownBlock = some k → C ≤ k ∧ k < w.heap.size := World.ownsRow.lt ⟨hl, h4⟩
 rcases h4 with ⟨rfl, hn⟩ | ⟨g, cap, cur, rfl, _⟩
 ·exact ⟨none, 0, by rw [hn], hb⟩
 ·exact ⟨_, _, rfl, hb⟩
end Go.Proofs.YteiaeaciaglmgaaGreat
namespace Go.Proofs.YteiaeaciaglmgaaGreat
open Go.RowKit
theorem IsInts.form {B : Nat} {w : World} {v : Value} {xs : List Int} (h : IsInts B w v xs) : ∃ a c, v = .slice a xs.length c := by
 obtain ⟨_, _, c, ⟨a, e, _⟩, _⟩ := h; exact ⟨a, c, e⟩
theorem IsMat.cells {B : Nat} {w : World} {a : Option Addr} {n c : Nat} {rows : List (List Int)} (h : IsMat B w (.slice a n c) rows) (hp : 0 < rows.length) : ∃ b o, a = some ⟨b, o, none⟩ ∧ ∀ j, j < rows.length → ∃ r, CellB B w b (o + j) r ∧ IsInts B w r (rowAt rows j) := by
 obtain ⟨b, o, c', ⟨a', e, _, _, ha⟩, _, hc⟩ := h
 simp only [Value.slice.injEq] at e
 obtain ⟨rfl, _, _⟩ := e
 rcases ha with ha | ha
 ·exact ⟨b, o, ha, hc⟩
 ·omega
theorem OwnInts.zeros {C m : Nat} {w : World} (hC : C ≤ w.heap.size) (hm : m ≤ 1000000) : OwnInts C (w.alloc (.cells (List.replicate m (Value.int .i64 0)).toArray 3)) (.slice (some ⟨w.heap.size, 0, none⟩) m m) (List.replicate m 0) := by
 refine ⟨⟨by simp, Or.inr ⟨w.heap.size, m, _, by simp, hC, heap_alloc_new w _, by simp, by unfold maxLen; omega, by simp, ?_⟩⟩, by simp; omega, fun x hx => ?_⟩
 ·simp [List.take_of_length_le]
 ·rw [List.eq_of_mem_replicate hx]; unfold I64; omega
theorem wpList_make_ints {ops : Array Oper} {rest : List Oper} {o : Oper} {a : Act} {w : World} {Q : Exit → Act → World → Prop} (hgd : o.guard = none) (l c : Operand) (hop : o.op = Op.makeSlice 25 l c)
  {m C : Nat} (hl : a.eval l = .int .i64 (m : Int)) (hc : a.eval c = .int .i64 (m : Int)) (hm : m ≤ 100000) (hC : C ≤ w.heap.size)
  (h : ∀ w', OwnInts C w' (.slice (some ⟨w.heap.size, 0, none⟩) m m) (List.replicate m 0) → Below w.heap.size w w' → w'.heap.size = w.heap.size + 1 → wpList Tryz.prog ops Q rest (a.put o.dst (.slice (some ⟨w.heap.size, 0, none⟩) m m)) w') : wpList Tryz.prog ops Q (o :: rest) a w := by
 obtain ⟨i0, hi, hz0, hz1, hz2⟩ := info_parts int_info
 refine wpList_plain hgd fun K hK => ?_
 have hr := run_make (P := Tryz.prog) w 25 3 i0 (.int .i64 0) Tryz.underlying25 hi hz0 .i64 .i64 m m (by omega) (by omega) (by rw [hz2]; omega) (by omega)
 simp only [Int.toNat_natCast, hz1, Nat.mul_one] at hr
 have hmc : madeCells (Value.int .i64 0).cells m = (List.replicate m (Value.int .i64 0)).toArray := by
  apply Array.ext
  ·simp [madeCells]
  ·intro i h1 h2
   simp [madeCells, Value.cells, Nat.mod_one]
 unfold Oper.wp
 simp only [execOp, hop, hl, hc]
 simp [hr, Result.andThen]
 rw [hmc]
 exact hK _ _ (h _ (OwnInts.zeros hC (by omega)) (box_below' w _) (by simp))
end Go.Proofs.YteiaeaciaglmgaaGreat
namespace Go.Proofs.YteiaeaciaglmgaaGreat
open Go.RowKit
set_option maxHeartbeats 2000000 in
set_option maxRecDepth 100000 in
/-- slices.Clone of what is not nil -/
theorem clone_any (B b off cap : Nat) (w : World) (xs : List Int) (hx : IsInts B w (.slice (some ⟨b, off, none⟩) xs.length cap) xs) (hB : B ≤ w.heap.size) :
  Calls Tryz.prog 45 #[.slice (some ⟨b, off, none⟩) xs.length cap] w fun e w' => ∃ v, e = .returned v ∧ OwnInts w.heap.size w' v xs ∧ Below w.heap.size w w' := by
 have HX := Lib.hid hx
 have HB := Lib.hid hB
 clear hx hB
 have hnil : (binOp .eql 25 (.slice (some ⟨b, off, none⟩) xs.length cap) (.slice none 0 0)).run Tryz.prog w = .ok (.bool false) w := Go.Lib.run_eql_slice_nil w _ _ _ _ _ _ _ Tryz.underlying25
 go_enter Tryz.func45, Tryz.ntmps45
 go_wp2_with (at_builtin; refine append_intsA (B := w.heap.size) (xs := []) rfl _ _ rfl xs rfl (OwnInts.made (Nat.le_refl _)) rfl ?a1 ?a2 ?a3 ?a4 ?a5)
 case a1 => exact (HX.out.below ((Below.refl B w).alloc HB.out _) (Nat.le_refl _)).src
 case a2 => obtain ⟨_, _, _, _, _, h, _⟩ := HX.out; exact h
 case a3 => obtain ⟨_, _, _, _, h, _⟩ := HX.out; simpa using h
 case a4 => simp
 case a5 =>
  intro v' w' h1 h2 h3
  have HO := Lib.hid h1
  have HG := Lib.hid h2
  clear h1 h2 h3
  go_wp2
  go_ret
  exact ⟨_, rfl, by simpa using HO.out, (box_below' w _).grown HG.out (by simp) (fun k hk => by simp [Value.ownBlock] at hk; omega)⟩
end Go.Proofs.YteiaeaciaglmgaaGreat
namespace Go.Proofs.YteiaeaciaglmgaaGreat
open Go.RowKit
section
variable {F : Fence} {n : Nat} {P : Program} {ops : Array Oper} {Q : Exit → Act → World → Prop}
def InvStepIn (F : Fence) (n : Nat) (P : Program) (ops : Array Oper) (Q : Exit → Act → World → Prop) (I : (Nat → Bool) → Act → World → Prop) (i : Nat) (o : Oper) : Prop :=
 ∀ (L : Nat → Bool) (a : Act) (w : World), L i = false → allOn L (depsOf o) → I L a w →
  ∀ K : Act → World → Prop, Shut (∀ a' w', I (upd L i) a' w' → K a' w') → if Region.wanted o (yielded ops a.tmps) = true then Oper.wpIn F n P o a w K Q else (∀ f, o.about P w a.eval = some f → F.fn f) ∧ K (a.put o.dst undef) w
def InvStepsIn (F : Fence) (n : Nat) (P : Program) (ops : Array Oper) (Q : Exit → Act → World → Prop) (I : (Nat → Bool) → Act → World → Prop) : Nat → List Oper → Prop
 | _, [] => True
 | k, o :: r => InvStepIn F n P ops Q I k o ∧ InvStepsIn F n P ops Q I (k + 1) r
theorem InvStepsIn.at {I : (Nat → Bool) → Act → World → Prop} : ∀ {l : List Oper} {k : Nat}, InvStepsIn F n P ops Q I k l → ∀ {i : Nat} {o : Oper}, l[i]? = some o → InvStepIn F n P ops Q I (k + i) o
 | [], _, _, i, o, ho => by simp at ho
 | o' :: r, k, h, 0, o, ho => by
  simp at ho
  subst ho
  exact h.1
 | o' :: r, k, h, i + 1, o, ho => by
  have := InvStepsIn.at h.2 (i := i) (o := o) (by simpa using ho)
  rw [show k + (i + 1) = k + 1 + i by omega]
  exact this
theorem wpAnyIn_inv {l : List Oper} (hb : backB 0 l = true) {I : (Nat → Bool) → Act → World → Prop} (hs : InvStepsIn F n P l.toArray Q I 0 l)
  (he : ∀ (L : Nat → Bool) a w, (∀ i, i < l.length → L i = true) → I L a w → Q .normal a w) :
  ∀ (fuel : Nat) (listed : Array Bool) (a : Act) (w : World), listed.size = l.length → leftN (fun j => listed.getD j false) l.length ≤ fuel → I (fun j => listed.getD j false) a w →
   wpAnyIn F n P .any l.toArray Q fuel listed a w := by
 have hfull : ∀ (listed : Array Bool), listed.size = l.length → Region.ready .any l.toArray listed = [] → ∀ n, n ≤ l.length → ∀ i, i < n → listed.getD i false = true := by
  intro listed hz hr n
  induction n with
  | zero => intro _ i hi; omega
  | succ n ih =>
   intro hn i hi
   rcases Nat.lt_or_ge i n with h1 | h1
   ·exact ih (by omega) i h1
   ·obtain rfl : i = n := by omega
    by_cases hh : listed.getD i false = true
    ·exact hh
    ·exfalso
     have hmem : i ∈ Region.ready .any l.toArray listed := by
      unfold Region.ready
      refine List.mem_filter.2 ⟨by simp; omega, ?_⟩
      have e1 : listed.getD i true = false := by
       have : i < listed.size := by omega
       simp [Array.getD_eq_getD_getElem?, this] at hh ⊢
       exact hh
      have hlt : i < l.length := by omega
      have e2 : l.toArray[i]? = some l[i] := by simp
      rw [e1, e2]
      simp only [Bool.not_false, Bool.true_and, Option.map_some, Option.getD_some]
      rw [Array.all_eq_true_iff_forall_mem]
      intro e hme
      by_cases hbd : Region.binds .any e = true
      ·have : e.on ∈ depsOf l[i] := List.mem_map.2 ⟨e, List.mem_filter.2 ⟨by simpa using hme, hbd⟩, rfl⟩
       have h2 := backB_at hb (i := i) (o := l[i]) (by simp) _ this
       simp [ih (by omega) e.on (by omega)]
      ·simp [hbd]
     rw [hr] at hmem
     cases hmem
 intro fuel
 induction fuel with
 | zero =>
  intro listed a w hz hl hI
  have hall := leftN_zero _ (Nat.le_zero.1 hl)
  refine ⟨?_, he _ a w hall hI⟩
  refine List.eq_nil_iff_forall_not_mem.2 fun i hi => ?_
  unfold Region.ready at hi
  obtain ⟨h1, h2⟩ := List.mem_filter.1 hi
  have hlt : i < l.length := by simpa using h1
  have h3 := hall i hlt
  have : i < listed.size := by omega
  simp [Array.getD_eq_getD_getElem?, this] at h3 h2
  rw [h3] at h2
  exact absurd h2.1 (by simp)
 | succ fuel ih =>
  intro listed a w hz hl hI
  refine ⟨fun hr => he _ a w (hfull listed hz hr l.length (Nat.le_refl _)) hI, fun i hi => ?_⟩
  have hi' := hi
  unfold Region.ready at hi'
  obtain ⟨h1, h2⟩ := List.mem_filter.1 hi'
  have hlt : i < l.length := by simpa using h1
  have hlz : i < listed.size := by omega
  have e2 : l.toArray[i]? = some l[i] := by simp
  rw [e2] at h2
  simp only [Option.map_some, Option.getD_some, Bool.and_eq_true] at h2
  have hL : listed.getD i false = false := by
   have := h2.1
   simp [Array.getD_eq_getD_getElem?, hlz] at this ⊢
   exact this
  have hdeps : allOn (fun j => listed.getD j false) (depsOf l[i]) := allOn_mem fun d hd => by
   obtain ⟨e, he1, rfl⟩ := List.mem_map.1 hd
   obtain ⟨he2, he3⟩ := List.mem_filter.1 he1
   have := (Array.all_eq_true_iff_forall_mem.1 h2.2) e (by simpa using he2)
   simpa [he3] using this
  have hstep := InvStepsIn.at hs (i := i) (o := l[i]) (by simp)
  rw [Nat.zero_add] at hstep
  refine wpOpIn_step e2 fun K' hK => ?_
  refine hstep _ a w hL hdeps hI K' ?_
  intro a' w' hI'
  refine hK a' w' (ih _ a' w' (by simp [hz]) ?_ ?_)
  ·rw [upd_listed hlz]
   have := leftN_upd (L := fun j => listed.getD j false) hL l.length hlt
   omega
  ·rw [upd_listed hlz]; exact hI'
/-- a region whose order is drawn, by an invariant -/
theorem wpIn_region_inv {id : Nat} {l : List Oper} {a : Act} {w : World} (I : Act → (Nat → Bool) → Act → World → Prop) (hm : P.follows .mixedOrders = true) (hb : backB 0 l = true)
  (h0 : I a (fun _ => false) a w.drew) (hs : InvStepsIn F n P l.toArray Q (I a) 0 l) (he : ∀ (L : Nat → Bool) a' w', (∀ i, i < l.length → L i = true) → I a L a' w' → Q .normal a' w') : (Code.region id l.toArray true).wpIn F n P Q a w := by
 refine wpIn_region_any hm ?_
 have hfun : (fun j => (Array.replicate l.toArray.size false).getD j false) = fun _ => false := by
  funext j
  simp [Array.getD_eq_getD_getElem?, Array.getElem?_replicate]
  by_cases h : j < l.length <;> simp [h]
 have hle : ∀ n, leftN (fun _ => false) n ≤ n := by
  intro n
  induction n with
  | zero => simp [leftN]
  | succ n ih => simp [leftN]; exact ih
 refine wpAnyIn_inv hb hs he _ _ _ _ (by simp) ?_ ?_
 ·rw [hfun]; simpa using hle l.length
 ·rw [hfun]; exact h0
end
section
variable {F : Fence} {n : Nat} {P : Program} {ops : Array Oper} {Q : Exit → Act → World → Prop}
def VStepIn (F : Fence) (n : Nat) (P : Program) (ops : Array Oper) (Q : Exit → Act → World → Prop) (ds : List (Option Nat)) (a0 : Act) (J : (Nat → Bool) → World → (Nat → Value) → Prop) (i : Nat) (o : Oper) : Prop :=
 ∀ (L : Nat → Bool) (a' : Act) (w' : World) (xs : Nat → Value), L i = false → allOn L (depsOf o) → FrameV a0 ds L xs a' → J L w' xs →
  ∀ K : Act → World → Prop, Shut (∀ v w'', J (upd L i) w'' (updV xs i v) → K (a'.put o.dst v) w'') → if Region.wanted o (yielded ops a'.tmps) = true then Oper.wpIn F n P o a' w' K Q else (∀ f, o.about P w' a'.eval = some f → F.fn f) ∧ K (a'.put o.dst undef) w'
def VStepsIn (F : Fence) (n : Nat) (P : Program) (ops : Array Oper) (Q : Exit → Act → World → Prop) (ds : List (Option Nat)) (a0 : Act) (J : (Nat → Bool) → World → (Nat → Value) → Prop) : Nat → List Oper → Prop
 | _, [] => True
 | k, o :: r => VStepIn F n P ops Q ds a0 J k o ∧ VStepsIn F n P ops Q ds a0 J (k + 1) r
theorem VStepsIn.inv {ds : List (Option Nat)} {a0 : Act} {J : (Nat → Bool) → World → (Nat → Value) → Prop} (hi : dsInj ds = true) (hn : dsBd a0.tmps.size ds = true) : ∀ {l : List Oper} {k : Nat}, (∀ i o, l[i]? = some o → ds[k + i]? = some o.dst) → VStepsIn F n P ops Q ds a0 J k l →
  InvStepsIn F n P ops Q (fun L a' w' => ∃ xs, FrameV a0 ds L xs a' ∧ J L w' xs) k l
 | [], _, _, _ => trivial
 | o :: r, k, hd, h => by
  refine ⟨?_, VStepsIn.inv hi hn (fun i o' ho => ?_) h.2⟩
  ·intro L a' w' hL hdep hI K hK
   obtain ⟨xs, hf, hJ⟩ := hI
   exact h.1 L a' w' xs hL hdep hf hJ K (show ∀ v w'', J (upd L k) w'' (updV xs k v) → K (a'.put o.dst v) w'' from fun v w'' hJ' => hK.out _ _ ⟨_, hf.put hi hn (by simpa using hd 0 o rfl) v, hJ'⟩)
  ·have := hd (i + 1) o' (by simpa using ho)
   rw [show k + 1 + i = k + (i + 1) by omega]
   exact this
/-- a region whose order is drawn, by what its slots hold -/
theorem wpIn_region_V {id : Nat} {l : List Oper} {a : Act} {w : World} (ds : List (Option Nat)) (J : (Nat → Bool) → World → (Nat → Value) → Prop) (hm : P.follows .mixedOrders = true) (hb : backB 0 l = true) (hds : l.map (·.dst) = ds) (hi : dsInj ds = true) (hn : dsBd a.tmps.size ds = true)
  (h0 : ∀ xs, J (fun _ => false) w.drew xs) (hs : VStepsIn F n P l.toArray Q ds a J 0 l) (he : ∀ (L : Nat → Bool) w' xs, (∀ i, i < ds.length → L i = true) → J L w' xs → Q .normal (putGo xs 0 ds a) w') : (Code.region id l.toArray true).wpIn F n P Q a w := by
 have hlen : ds.length = l.length := by rw [← hds]; simp
 refine wpIn_region_inv (fun a0 L a' w' => ∃ xs, FrameV a0 ds L xs a' ∧ J L w' xs) hm hb ⟨fun _ => undef, FrameV.start _ _ _, h0 _⟩ (VStepsIn.inv hi hn (fun i o ho => ?_) hs) ?_
 ·rw [← hds, Nat.zero_add, List.getElem?_map, ho]; rfl
 ·rintro L a' w' hL ⟨xs, hf, hJ⟩
  rw [hf.final hi hn (fun i h => hL i (by omega))]
  exact he L w' xs (fun i h => hL i (by omega)) hJ
end
end Go.Proofs.YteiaeaciaglmgaaGreat
namespace Go.Proofs.YteiaeaciaglmgaaGreat
open Go.RowKit Go.Maps
/-- the marks of loops over functions that are over -/
def marksOf (rs : List Nat) : List Deferred := rs.map fun r => { target := .collected r, args := #[] }
structure MarksOk (B : Nat) (rs : List Nat) (W : World) : Prop where
 nd : rs.Nodup
 at_ : ∀ r ∈ rs, B ≤ r ∧ W.heap[r]? = some (.deferred (some []))
theorem MarksOk.nil (B : Nat) (W : World) : MarksOk B [] W := ⟨List.nodup_nil, fun r h => by cases h⟩
theorem MarksOk.cons {B d : Nat} {rs : List Nat} {W : World} (h : MarksOk B rs W) (hd : B ≤ d) (hk : W.heap[d]? = some (.deferred (some []))) (hn : d ∉ rs) : MarksOk B (d :: rs) W :=
 ⟨List.nodup_cons.2 ⟨hn, h.nd⟩, fun r hr => by
  rcases List.mem_cons.1 hr with rfl | hr
  ·exact ⟨hd, hk⟩
  ·exact h.at_ r hr⟩
theorem MarksOk.turned {X : Nat → Prop} {B : Nat} {rs : List Nat} {W W' : World} (h : MarksOk B rs W) (ht : Turned X W W') (hx : ∀ r ∈ rs, ¬ X r) : MarksOk B rs W' :=
 ⟨h.nd, fun r hr => ⟨(h.at_ r hr).1, (ht.block r (Array.getElem?_eq_some_iff.1 (h.at_ r hr).2).1 (hx r hr)).trans (h.at_ r hr).2⟩⟩
theorem MarksOk.lt {B : Nat} {rs : List Nat} {W : World} (h : MarksOk B rs W) : ∀ r ∈ rs, r < W.heap.size := fun r hr => (Array.getElem?_eq_some_iff.1 (h.at_ r hr).2).1
theorem MarksOk.ext {B : Nat} {rs : List Nat} {W W' : World} (h : MarksOk B rs W) (hb : Below W.heap.size W W') : MarksOk B rs W' := h.turned (X := fun _ => False) (Turned.of_below hb) (fun _ _ h => h)
theorem MarksOk.grown {B r : Nat} {rs : List Nat} {W W' : World} (h : MarksOk B rs W) (hg : W.grownBy W' (some r)) (hr : W.heap[r]? ≠ some (.deferred (some []))) : MarksOk B rs W' :=
 h.turned (X := fun k => k = r) (Turned.of_grown hg (fun k e => by cases e; rfl)) (fun k hk e => by subst e; exact hr (h.at_ k hk).2)
/-- a function that leaves with marks among its deferred calls -/
theorem leaves_marks {F : Fence} {n : Nat} {P : Program} {fn : Func} {tmps : Array Value} {R : Ending → World → Prop} {B : Nat} : ∀ (rs : List Nat) (W : World), MarksOk B rs W →
  (∀ W', Turned (fun k => k ∈ rs) W W' → ∃ v, (results fn tmps).run P W' = .ok v W' ∧ R (.returned v) W') → LeavesInM F n P fn tmps R (marksOf rs) .returning W
 | [], W, _, h => h W (Turned.refl _ _)
 | r :: rs, W, hm, h => by
  have hk := (hm.at_ r (by simp)).2
  have hn := List.nodup_cons.1 hm.nd
  refine ⟨by simp, .inl ⟨r, _, rfl, run_takeDeferred hk, ?_⟩⟩
  have hm' : MarksOk B rs (W.putObj r (.deferred none)) := ⟨hn.2, fun q hq => ⟨(hm.at_ q (List.mem_cons_of_mem _ hq)).1, (World.putObj_heap_other (fun e => hn.1 (by rw [← e]; exact hq))).trans (hm.at_ q (List.mem_cons_of_mem _ hq)).2⟩⟩
  refine leaves_marks rs _ hm' fun W' ht => h W' ?_
  exact (Turned.putObj (X := fun k => k ∈ r :: rs) W r (.deferred none) (by simp)).trans (ht.mono fun k _ hk => List.mem_cons_of_mem _ hk)
theorem OwnInts.turnedX {X : Nat → Prop} {C : Nat} {w w' : World} {v : Value} {xs : List Int} (h : OwnInts C w v xs) (ht : Turned X w w') (hx : ∀ k c t f, w.heap[k]? = some (.cells c t f) → ¬ X k) : OwnInts C w' v xs := by
 obtain ⟨⟨hl, h1⟩, h2, h3⟩ := h
 refine ⟨⟨hl, ?_⟩, h2, h3⟩
 rcases h1 with h1 | ⟨g, cap, cur, hv, hb, hg, rest⟩
 ·exact Or.inl h1
 ·exact Or.inr ⟨g, cap, cur, hv, hb, (ht.block g (Array.getElem?_eq_some_iff.1 hg).1 (hx g _ _ _ hg)).trans hg, rest⟩
theorem OwnMat.turnedX {X : Nat → Prop} {C : Nat} {w w' : World} {v : Value} {rows : List (List Int)} (h : OwnMat C w v rows) (ht : Turned X w w') (hx : ∀ k c t f, w.heap[k]? = some (.cells c t f) → ¬ X k) : OwnMat C w' v rows := by
 obtain ⟨vals, ⟨hl, h1⟩, h2, h3⟩ := h
 refine ⟨vals, ⟨hl, ?_⟩, h2, fun j hj => (h3 j hj).turnedX ht hx⟩
 rcases h1 with h1 | ⟨g, cap, cur, hv, hb, hg, rest⟩
 ·exact Or.inl h1
 ·exact Or.inr ⟨g, cap, cur, hv, hb, (ht.block g (Array.getElem?_eq_some_iff.1 hg).1 (hx g _ _ _ hg)).trans hg, rest⟩
theorem MarksOk.notCells {B : Nat} {rs : List Nat} {W : World} (h : MarksOk B rs W) : ∀ k c t f, W.heap[k]? = some (.cells c t f) → ¬ k ∈ rs := fun k c t f hk hm => by
 rw [(h.at_ k hm).2] at hk; cases hk
section
variable {α : Type} {enc : α → Value} {P : Program} {w : World} {T K E : TypeId} {r : Nat} {l : List (α × Value)} {ops : Array Oper} {rest : List Oper} {o : Oper} {a : Act} {Q : Exit → Act → World → Prop}
theorem KMap.obj (h : KMap enc w r l) : ∃ es c, w.heap[r]? = some (.map es c) ∧ es.size = l.length := by
 obtain ⟨es, c, h1, _, h3⟩ := h
 refine ⟨es, c, h1, ?_⟩
 have := congrArg List.length h3
 simpa using this
theorem KMap.len {R : TypeId} (h : KMap enc w r l) (hT : P.underlying T = some (.map K E)) : (Builtin.len_ #[T] R #[.map (some r)]).run P w = .ok (.int .i64 l.length) w := by
 obtain ⟨es, c, h1, h2⟩ := h.obj
 have hg : (getObj r).run P w = .ok (.map es c) w := Go.MapKept.run_getObj_map h1
 simp [Builtin.len_, run_underlying hT, hg, Result.andThen, goInt, h2]
theorem KMap.turned {X : Nat → Prop} {w' : World} (h : KMap enc w r l) (ht : Turned X w w') (hx : ¬ X r) : KMap enc w' r l := by
 obtain ⟨es, c, h1, h2⟩ := h
 exact ⟨es, c, (ht.block r (Array.getElem?_eq_some_iff.1 h1).1 hx).trans h1, h2⟩
theorem KIter.turned {X : Nat → Prop} {w' : World} {bm : Nat} {left : List (α × Value)} (h : KIter enc w bm r l left) (ht : Turned X w w') (h1 : ¬ X bm) (h2 : ¬ X r) : KIter enc w' bm r l left := by
 obtain ⟨es, c, seen, c0, a, b, rest⟩ := h
 exact ⟨es, c, seen, c0, (ht.block bm (Array.getElem?_eq_some_iff.1 a).1 h1).trans a, (ht.block r (Array.getElem?_eq_some_iff.1 b).1 h2).trans b, rest⟩
end
end Go.Proofs.YteiaeaciaglmgaaGreat
namespace Go.Proofs.YteiaeaciaglmgaaGreat
open Go.RowKit
set_option maxHeartbeats 2000000 in
/-- slices.Equal -/
theorem equal_any (B B' : Nat) (w : World) (v v' : Value) (xs ys : List Int) (hv : IsInts B w v xs) (hv' : IsInts B' w v' ys) :
  Calls Tryz.prog 22 #[v, v'] w fun e w' => e = .returned (.bool (sameB xs ys)) ∧ Drew w w' := by
 obtain ⟨b, off, cap, ⟨a, rfl, hcap, hmax, ha⟩, hlen, hz, hc⟩ := hv
 obtain ⟨b', off', cap', ⟨a', rfl, hcap', hmax', ha'⟩, hlen', hz', hc'⟩ := hv'
 by_cases hl : xs.length = ys.length
 ·have HL := Lib.hid hl
  have hne2 : ((xs.length : Int) != (ys.length : Int)) = false := by rw [hl]; simp
  clear hl
  go_enter Tryz.func22, Tryz.ntmps22
  go_wp2
  go_loopw [13] (fun i wr => ∃ k : Nat, k ≤ xs.length ∧ i = .int .i64 k ∧ sameB (xs.take k) (ys.take k) = true ∧ Drew w wr) (fun i _ => xs.length - (intOf i).toNat)
  case atStart => exact ⟨0, by omega, rfl, rfl, Drew.refl _⟩
  case round =>
   obtain ⟨k, hk, rfl, hno, hd⟩ := hrel
   have HN := Lib.hid hno
   have HD := Lib.hid hd
   clear hno hd
   by_cases hlt : k < xs.length
   ·have hlt' : k < ys.length := by rw [← HL.out]; exact hlt
    obtain rfl : a = some ⟨b, off, none⟩ := by rcases ha with ha | ha; exact ha; omega
    obtain rfl : a' = some ⟨b', off', none⟩ := by rcases ha' with ha | ha; exact ha; omega
    have hcell := (HD.out.cell _).trans (hc k hlt).2
    have hcell' := (HD.out.cell _).trans (hc' k hlt').2
    clear ha ha' hc hc'
    go_wp2
    go_quiet (fail)
    by_cases he : nth xs k = nth ys k
    ·have HT := Lib.hid (sameB_succ HN.out hlt hlt' he)
     have he' : (nth xs k != nth ys k) = false := by simpa using he
     clear he
     go_wp2
     go_roundw
     case rel => exact ⟨k + 1, by omega, by go_num, HT.out, HD.out.drewN _⟩
     case measure => simp [intOf]; omega
    ·have HT := Lib.hid (sameB_not hlt hlt' he)
     have he' : (nth xs k != nth ys k) = true := by simpa using he
     clear he
     go_wp2
     go_ret
     exact ⟨by rw [HT.out]; rfl, HD.out.drewN _⟩
   ·have HT := Lib.hid (sameB_all HN.out (by omega) (by have := HL.out; omega))
    clear hc hc'
    go_wp2
    go_ret
    exact ⟨by rw [HT.out]; rfl, HD.out⟩
 ·have HT := Lib.hid (sameB_len hl)
  have hne2 : ((xs.length : Int) != (ys.length : Int)) = true := by simp; omega
  clear hl hc hc'
  go_enter Tryz.func22, Tryz.ntmps22
  go_wp2
  go_ret
  exact ⟨by rw [HT.out]; rfl, Drew.refl _⟩
end Go.Proofs.YteiaeaciaglmgaaGreat
namespace Go.Proofs.YteiaeaciaglmgaaGreat
open Go.RowKit
/-- what holds while the lots are copied; x2 the empty list, x5 the copy, x6 the flow's value, x7 its box -/
structure AC (w1 : World) (ls : List Lot) (v1 : Value) (L : Nat → Bool) (x2 x5 x6 x7 : Value) (w : World) : Prop where
 hb : Below w1.heap.size w1 w
 h2 : L 2 = true → L 5 = false → OwnLots w1.heap.size w x2 []
 h5 : L 5 = true → OwnLots w1.heap.size w x5 ls
 h6 : L 6 = true → x6 = .agg #[v1, x5]
 h7 : L 7 = true → L 8 = false → ∃ p, x7 = .pointer (some ⟨p, 0, none⟩) ∧ w1.heap.size ≤ p ∧ CellsN w p #[.int .i64 0, .slice none 0 0] ∧ (L 2 = true → x2.ownBlock ≠ some p) ∧ (L 5 = true → x5.ownBlock ≠ some p)
 h8 : L 8 = true → MoreCut w1 ls v1 x7 w
 l2 : L 2 = true → ∀ k, x2.ownBlock = some k → k < w.heap.size
 l5 : L 5 = true → ∀ k, x5.ownBlock = some k → k < w.heap.size
 c6 : L 6 = true → L 5 = true
 c8 : L 8 = true → L 7 = true ∧ L 6 = true ∧ L 5 = true ∧ L 2 = true
section
variable {w1 : World} {ls : List Lot} {v1 : Value} {L : Nat → Bool} {x2 x5 x6 x7 : Value} {w : World}
variable (h : AC w1 ls v1 L x2 x5 x6 x7 w)
include h
theorem AC.no8 {i : Nat} (hi : L i = false) (hm : i = 2 ∨ i = 5 ∨ i = 6 ∨ i = 7) : L 8 = false := by
 cases e : L 8 with
 | false => rfl
 | true =>
  obtain ⟨e7, e6, e5, e2⟩ := h.c8 e
  rcases hm with rfl | rfl | rfl | rfl <;> simp_all
theorem AC.more (hi : L 8 = false) (o : Obj) : AC w1 ls v1 L x2 x5 x6 x7 (w.alloc o) :=
 {hb := h.hb.alloc h.hb.size _, h2 := (fun a b => (h.h2 a b).allocX h.hb.size o), h5 := (fun a => (h.h5 a).allocX h.hb.size o), h6 := h.h6,
  h7 := (fun a b => by obtain ⟨p, e1, e2, e3, e4, e5⟩ := h.h7 a b; exact ⟨p, e1, e2, e3.alloc _, e4, e5⟩), h8 := (fun e => by rw [hi] at e; cases e),
  l2 := (fun e k hk => by have := h.l2 e k hk; simp; omega), l5 := (fun e k hk => by have := h.l5 e k hk; simp; omega), c6 := h.c6, c8 := h.c8 }
theorem AC.s2 (hi : L 2 = false) : AC w1 ls v1 (upd L 2) (.slice (some ⟨w.heap.size, 0, none⟩) 0 0) x5 x6 x7 (w.alloc (.cells #[] 64)) := by
 have hno := h.no8 hi (by simp)
 have h' := h.more hno (.cells #[] 64)
 exact {
  hb := h'.hb, h2 := (fun _ _ => OwnLots.made rfl h.hb.size), h5 := h'.h5, h6 := h'.h6,
  h7 := (fun a b => by obtain ⟨p, e1, e2, e3, e4, e5⟩ := h.h7 a b; exact ⟨p, e1, e2, e3.alloc _, (fun _ => by have := e3.lt; simp [Value.ownBlock]; omega), e5⟩), h8 := h'.h8,
  l2 := (fun _ k hk => by simp [Value.ownBlock] at hk; simp; omega), l5 := h'.l5, c6 := h'.c6, c8 := (fun e => by rw [show upd L 2 8 = L 8 from rfl, hno] at e; cases e) }
end
end Go.Proofs.YteiaeaciaglmgaaGreat
namespace Go.Proofs.YteiaeaciaglmgaaGreat
open Go.RowKit
theorem OwnLots.cells3 {C : Nat} {w : World} {g n cap k : Nat} {ls : List Lot} (h : OwnLots C w (.slice (some ⟨g, 0, none⟩) n cap) ls) (hn : n = ls.length) (hk : k < ls.length) :
  ∃ vi vk vp, w.cell? ⟨g, k * 3, none⟩ = some vi ∧ w.cell? ⟨g, k * 3 + 1, none⟩ = some vk ∧ w.cell? ⟨g, k * 3 + 2, none⟩ = some vp ∧ IsLot C w vi vk vp (lotAt ls k) ∧ ∀ j, w.frozen? ⟨g, j, none⟩ = false := by
 subst hn
 obtain ⟨vals, h1, h2, h3, h4⟩ := h
 have hf := flat_get vals k (by omega)
 exact ⟨_, _, _, (h1.cellAt (k * 3) (by omega)).trans hf.1, (h1.cellAt (k * 3 + 1) (by omega)).trans hf.2.1, (h1.cellAt (k * 3 + 2) (by omega)).trans hf.2.2, h4 k hk, fun j => h1.frozenAt j⟩
theorem OwnLots.apart {C : Nat} {w : World} {g n cap p : Nat} {ls : List Lot} {s : Int} {u : Value} (h : OwnLots C w (.slice (some ⟨g, 0, none⟩) n cap) ls) (hn : n = ls.length) (hne : 0 < ls.length) (hp : CellsN w p #[.int .i64 s, u]) : p ≠ g := by
 rintro rfl
 obtain ⟨vi, vk, vp, c0, _, _, hi, _⟩ := h.cells3 hn hne
 have e := hp.cell 0
 rw [Nat.zero_mul] at c0
 rw [c0] at e
 obtain ⟨⟨_, _, _, ⟨a, e2, _⟩, _⟩, _⟩ := hi
 rw [e2] at e
 simp at e
end Go.Proofs.YteiaeaciaglmgaaGreat
namespace Go.Proofs.YteiaeaciaglmgaaGreat
open Go.RowKit
theorem grown_cell {w w' : World} {b : Option Nat} (h : w.grownBy w' b) {g j : Nat} (hg : g < w.heap.size) (hne : b ≠ some g) : w'.cell? ⟨g, j, none⟩ = w.cell? ⟨g, j, none⟩ := by
 have e := h.5 g hg (fun e => hne (by rw [← e]))
 simp only [World.cell?, e]
end Go.Proofs.YteiaeaciaglmgaaGreat
namespace Go.Proofs.YteiaeaciaglmgaaGreat
open Go.RowKit Go.MapKept
theorem findDel_ints : ∀ (es : List MapEntry) (l : AL) (i : Nat) (x : Int), es.map (fun e => (e.key, e.val)) = l.map (fun p => (Value.int .i64 p.1, p.2)) →
  (adel l x = l ∧ Instr.findNow (.int .i64) (.int .i64 x) es i = some none) ∨
  ∃ j v, Instr.findNow (.int .i64) (.int .i64 x) es i = some (some (i + j, v)) ∧ j < es.length ∧ (es.eraseIdx j).map (fun e => (e.key, e.val)) = (adel l x).map (fun p => (Value.int .i64 p.1, p.2))
 | [], [], i, x, _ => Or.inl ⟨rfl, rfl⟩
 | [], p :: l, i, x, h => by simp at h
 | e :: es, [], i, x, h => by simp at h
 | e :: es, (k, v) :: l, i, x, h => by
  simp only [List.map_cons, List.cons.injEq, Prod.mk.injEq] at h
  obtain ⟨⟨hk, hv⟩, ht⟩ := h
  by_cases hx : k = x
  ·subst hx
   refine Or.inr ⟨0, v, ?_, by simp, ?_⟩
   ·simp [Instr.findNow, Instr.sameNow, hk, hv]
   ·simp [adel, ht]
  ·have hsame : Instr.sameNow (.int .i64) (.int .i64 x) e.key = some false := by
    rw [hk]; simp [Instr.sameNow]; intro h'; exact hx h'.symm
   rcases findDel_ints es l (i + 1) x ht with ⟨h1, h2⟩ | ⟨j, u, h2, h3, h4⟩
   ·exact Or.inl ⟨by simp only [adel]; rw [if_neg hx, h1], by simp [Instr.findNow, hsame, h2]⟩
   ·refine Or.inr ⟨j + 1, u, by simp [Instr.findNow, hsame, h2]; omega, by simpa using h3, ?_⟩
    simp only [List.eraseIdx_cons_succ, List.map_cons, h4, adel, if_neg hx, hk, hv]
section
variable {P : Program} {w : World} {T K : TypeId} {E : TypeId} {r : Nat} {l : AL}
theorem run_delete_ints (hT : P.underlying T = some (.map K E)) (hK : P.underlying K = some (.int .i64)) (h : IntMap w r l) (x : Int) (ty : TypeId) :
  ∃ w', (Builtin.delete_ #[T, K] ty #[.map (some r), .int .i64 x]).run P w = .ok (.tuple #[]) w' ∧ IntMap w' r (adel l x) ∧ w.grownBy w' (some r) ∧ w'.heap.size = w.heap.size := by
 obtain ⟨es, c, h1, h2, h3⟩ := h
 have hk : IsKey (.int .i64) (.int .i64 x) := rfl
 have hck : (Instr.checkKey es.isEmpty 10000 K (.int .i64 x)).run P w = .ok () w := run_checkKey hK hk es.isEmpty 9999
 have hg : (getObj r).run P w = .ok (.map es c) w := MapKept.run_getObj_map h1
 have keep : ∀ o : Obj, w.grownBy { w with heap := w.heap.setIfInBounds r o } (some r) := fun o =>
  ⟨rfl, rfl, rfl, by simp, fun k hk' hne => by simp only [Array.getElem?_setIfInBounds]; rw [if_neg (fun e => hne (by rw [e]))]⟩
 unfold Builtin.delete_
 rcases findDel_ints es.toList l 0 x h3 with ⟨q1, q2⟩ | ⟨j, u, q2, q3, q4⟩
 ·have hf := run_findKey (P := P) (w := w) hK q2
  have hset := run_setObj_map (P := P) (.map es c) h1
  refine ⟨_, by simp [run_underlying hT, Result.andThen, hg, hck, hf, hset], ⟨_, _, (heap_set h1).1, h2, by rw [q1]; exact h3⟩, keep _, by simp⟩
 ·have hf := run_findKey (P := P) (w := w) hK q2
  simp only [Nat.zero_add] at hf
  have hset := run_setObj_map (P := P) (.map (es.eraseIdxIfInBounds j) c) h1
  refine ⟨_, by simp [run_underlying hT, Result.andThen, hg, hck, hf, hset]; rfl, ⟨_, _, (heap_set h1).1, stamped_erase h2 _, ?_⟩, keep _, by simp⟩
  have e : (es.eraseIdxIfInBounds j).toList = es.toList.eraseIdx j := by
   unfold Array.eraseIdxIfInBounds
   rw [dif_pos (by simpa using q3)]
   simp
  rw [e]
  exact q4
/-- the operation delete(m, x) -/
theorem wpList_delete_ints {ops : Array Oper} {rest : List Oper} {o : Oper} {a : Act} {Q : Exit → Act → World → Prop} (hg : Region.wanted o (yielded ops a.tmps) = true) (m xo : Operand)
  (hop : o.op = Op.call { callee := Callee.builtin Builtin.delete, args := #[m, xo], argTypes := #[T, K] })
  (hT : P.underlying T = some (.map K E)) (hK : P.underlying K = some (.int .i64)) (hm : a.eval m = .map (some r)) (h : IntMap w r l) {x : Int} (hx : a.eval xo = .int .i64 x)
  (hk : ∀ w', IntMap w' r (adel l x) → w.grownBy w' (some r) → w'.heap.size = w.heap.size → wpList P ops Q rest (a.put o.dst (.tuple #[])) w') : wpList P ops Q (o :: rest) a w := by
 refine wpList_want hg fun K' hK' => ?_
 obtain ⟨w', hrun, h1, h2, h3⟩ := run_delete_ints hT hK h x o.type
 unfold Oper.wp
 simp [execOp, hop, resolve, invoke, builtin, hm, hx, hrun, Result.andThen]
 exact hK' _ _ (hk w' h1 h2 h3)
/-- the operations of a region, one at a time -/
theorem wp_lookup_ints {o : Oper} {a : Act} {K' : Act → World → Prop} {Q : Exit → Act → World → Prop} (m xo : Operand) (hop : o.op = Op.lookup T m xo false)
  (hT : P.underlying T = some (.map K E)) (hK : P.underlying K = some (.int .i64)) {z : Value} (hz : (zeroValue E).run P w = .ok z w) (hm : a.eval m = .map (some r)) (h : IntMap w r l) {x : Int} (hx : a.eval xo = .int .i64 x) {v : Value} (hv : alook l x = some v)
  (hk : K' (a.put o.dst v) w) : o.wp P a w K' Q := by
 unfold Oper.wp
 simp only [execOp, hop, hm, hx]
 simp [run_lookup_ints hT hK hz h x false, Result.andThen, hv]
 exact hk
theorem wp_update_ints {o : Oper} {a : Act} {K' : Act → World → Prop} {Q : Exit → Act → World → Prop} (m xo vo : Operand) (hop : o.op = Op.mapUpdate T m xo vo)
  (hT : P.underlying T = some (.map K E)) (hK : P.underlying K = some (.int .i64)) (hm : a.eval m = .map (some r)) (h : IntMap w r l) {x : Int} {v : Value} (hx : a.eval xo = .int .i64 x) (hv : a.eval vo = v)
  (hk : ∀ w', IntMap w' r (aset l x v) → w.grownBy w' (some r) → w'.heap.size = w.heap.size → K' (a.put o.dst undef) w') : o.wp P a w K' Q := by
 obtain ⟨w', hrun, h1, h2, h3⟩ := run_update_ints hT hK h x v
 unfold Oper.wp
 simp only [execOp, hop, hm, hx, hv]
 simp [hrun, Result.andThen]
 exact hk w' h1 h2 h3
theorem wpList_next_moreA {ops : Array Oper} {rest : List Oper} {o : Oper} {a : Act} {Q : Exit → Act → World → Prop} {bm r : Nat} {l left : AL} (hg : Region.wanted o (yielded ops a.tmps) = true) (it : Operand) (hop : o.op = Op.next it false) (hit : a.eval it = .pointer (some ⟨r, 0, none⟩)) (h : MapIter w bm r l left) (hne : r ≠ bm) (he : left ≠ [])
  (hk : ∀ (A : AL) (x : Int) (v : Value) (B : AL) (w' : World), left = A ++ (x, v) :: B → MapIter w' bm r l (A ++ B) → w.grownBy w' (some r) → w'.heap.size = w.heap.size →
   (Instr.entry (.pointer (some ⟨r, 0, none⟩))).run P w' = .ok (.tuple #[.int .i64 x, v]) w' → wpList P ops Q rest (a.put o.dst (.tuple #[.bool true, .int .i64 x, v])) w') : wpList P ops Q (o :: rest) a w :=
 wpList_next_ints hg it hop hit h hne (fun e => absurd e he) hk
theorem wpList_next_doneA {ops : Array Oper} {rest : List Oper} {o : Oper} {a : Act} {Q : Exit → Act → World → Prop} {bm r : Nat} {l left : AL} (hg : Region.wanted o (yielded ops a.tmps) = true) (it : Operand) (hop : o.op = Op.next it false) (hit : a.eval it = .pointer (some ⟨r, 0, none⟩)) (h : MapIter w bm r l left) (hne : r ≠ bm) (he : left = [])
  (hk : wpList P ops Q rest (a.put o.dst (.tuple #[.bool false])) w) : wpList P ops Q (o :: rest) a w :=
 wpList_next_ints hg it hop hit h hne (fun _ => hk) (fun A x v B w' e => by rw [he] at e; simp at e)
end
theorem aset_fresh {l : AL} {x : Int} (h : x ∉ l.map (·.1)) (v : Value) : aset l x v = l ++ [(x, v)] := by
 induction l with
 | nil => rfl
 | cons p r ih =>
  obtain ⟨k, u⟩ := p
  simp only [List.map_cons, List.mem_cons, not_or] at h
  simp only [aset]
  rw [if_neg (fun e => h.1 e.symm), ih h.2]
  rfl
theorem mem_adel {l : AL} (hn : (l.map (·.1)).Nodup) {x y : Int} {v : Value} : (y, v) ∈ adel l x ↔ (y, v) ∈ l ∧ y ≠ x := by
 induction l with
 | nil => simp [adel]
 | cons p r ih =>
  obtain ⟨k, u⟩ := p
  simp only [List.map_cons, List.nodup_cons] at hn
  simp only [adel]
  by_cases hk : k = x
  ·subst hk
   rw [if_pos rfl]
   constructor
   ·intro h
    exact ⟨List.mem_cons_of_mem _ h, fun e => hn.1 (by rw [← e]; exact List.mem_map.2 ⟨_, h, rfl⟩)⟩
   ·rintro ⟨h, hne⟩
    rcases List.mem_cons.1 h with e | h
    ·simp only [Prod.mk.injEq] at e; exact absurd e.1 hne
    ·exact h
  ·rw [if_neg hk, List.mem_cons, List.mem_cons, ih hn.2]
   constructor
   ·rintro (e | ⟨h, hne⟩)
    ·simp only [Prod.mk.injEq] at e; exact ⟨.inl (by rw [e.1, e.2]), by rw [e.1]; exact hk⟩
    ·exact ⟨.inr h, hne⟩
   ·rintro ⟨e | h, hne⟩
    ·exact .inl e
    ·exact .inr ⟨h, hne⟩
theorem nodup_adel {l : AL} (hn : (l.map (·.1)).Nodup) (x : Int) : ((adel l x).map (·.1)).Nodup := by
 have hs : (adel l x).Sublist l := by
  clear hn
  induction l with
  | nil => exact List.Sublist.refl _
  | cons p r ih =>
   obtain ⟨k, u⟩ := p
   simp only [adel]
   by_cases hk : k = x
   ·rw [if_pos hk]; exact List.sublist_cons_self _ _
   ·rw [if_neg hk]; exact List.Sublist.cons_cons _ ih
 exact List.Nodup.sublist (hs.map _) hn
theorem alook_mem {l : AL} (hn : (l.map (·.1)).Nodup) {x : Int} {v : Value} (h : (x, v) ∈ l) : alook l x = some v := by
 induction l with
 | nil => cases h
 | cons p r ih =>
  obtain ⟨k, u⟩ := p
  simp only [List.map_cons, List.nodup_cons] at hn
  simp only [alook]
  rcases List.mem_cons.1 h with e | h
  ·simp only [Prod.mk.injEq] at e
   rw [if_pos e.1.symm, e.2]
  ·rw [if_neg (fun e => hn.1 (by rw [e]; exact List.mem_map.2 ⟨_, h, rfl⟩))]
   exact ih hn.2 h
/-- the map l holds just the senders below n, each one at its spot -/
def Sat (n : Nat) (P : Nat → Int) (l : AL) : Prop := (l.map (·.1)).Nodup ∧ ∀ x v, (x, v) ∈ l ↔ ∃ s, s < n ∧ P s = x ∧ v = .int .i64 (s : Int)
theorem Sat.nil (P : Nat → Int) : Sat 0 P [] := ⟨List.nodup_nil, fun x v => by simp⟩
theorem Sat.eq {n : Nat} {P P' : Nat → Int} {l : AL} (h : Sat n P l) (he : ∀ s, s < n → P s = P' s) : Sat n P' l :=
 ⟨h.1, fun x v => by rw [h.2]; exact ⟨fun ⟨s, a, b, c⟩ => ⟨s, a, by rw [← he s a]; exact b, c⟩, fun ⟨s, a, b, c⟩ => ⟨s, a, by rw [he s a]; exact b, c⟩⟩⟩
theorem Sat.key {n : Nat} {P : Nat → Int} {l : AL} (h : Sat n P l) {x : Int} : x ∈ l.map (·.1) ↔ ∃ s, s < n ∧ P s = x := by
 constructor
 ·intro hx
  obtain ⟨⟨y, v⟩, hm, rfl⟩ := List.mem_map.1 hx
  obtain ⟨s, a, b, _⟩ := (h.2 _ _).1 hm
  exact ⟨s, a, b⟩
 ·rintro ⟨s, a, b⟩
  exact List.mem_map.2 ⟨_, (h.2 x _).2 ⟨s, a, b, rfl⟩, rfl⟩
theorem Sat.look {n : Nat} {P : Nat → Int} {l : AL} (h : Sat n P l) {s : Nat} (hs : s < n) : alook l (P s) = some (.int .i64 (s : Int)) := alook_mem h.1 ((h.2 _ _).2 ⟨s, hs, rfl, rfl⟩)
theorem Sat.inj {n : Nat} {P : Nat → Int} {l : AL} (h : Sat n P l) {s t : Nat} (hs : s < n) (ht : t < n) (e : P s = P t) : s = t := by
 have h1 := h.look hs
 rw [e, h.look ht] at h1
 simp at h1
 omega
theorem Sat.more {n : Nat} {P : Nat → Int} {l : AL} (h : Sat n P l) (hf : ∀ s, s < n → P s ≠ P n) : Sat (n + 1) P (aset l (P n) (.int .i64 (n : Int))) := by
 have hx : P n ∉ l.map (·.1) := fun hx => by obtain ⟨s, a, b⟩ := h.key.1 hx; exact hf s a b
 refine ⟨nodup_aset h.1 _ _, fun x v => ?_⟩
 rw [aset_fresh hx, List.mem_append, h.2]
 constructor
 ·rintro (⟨s, a, b, c⟩ | e)
  ·exact ⟨s, by omega, b, c⟩
  ·have := List.mem_singleton.1 e
   simp only [Prod.mk.injEq] at this
   exact ⟨n, by omega, this.1.symm, this.2⟩
 ·rintro ⟨s, a, b, c⟩
  by_cases e : s = n
  ·subst e; exact .inr (by simp [b, c])
  ·exact .inl ⟨s, by omega, b, c⟩
theorem Sat.move {n : Nat} {P P' : Nat → Int} {l : AL} {t : Nat} {y : Int} (h : Sat n P l) (ht : t < n) (hy : ∀ s, s < n → P s ≠ y) (hp : ∀ s, s < n → P' s = if s = t then y else P s) :
  Sat n P' (adel (aset l y (.int .i64 (t : Int))) (P t)) := by
 have hx : y ∉ l.map (·.1) := fun hx => by obtain ⟨s, a, b⟩ := h.key.1 hx; exact hy s a b
 have hn := nodup_aset h.1 y (.int .i64 (t : Int))
 refine ⟨nodup_adel hn _, fun x v => ?_⟩
 rw [mem_adel hn, aset_fresh hx, List.mem_append, h.2]
 constructor
 ·rintro ⟨⟨s, a, b, c⟩ | e, hne⟩
  ·have hst : s ≠ t := fun e => hne (by rw [← b, e])
   exact ⟨s, a, by rw [hp s a, if_neg hst]; exact b, c⟩
  ·have := List.mem_singleton.1 e
   simp only [Prod.mk.injEq] at this
   exact ⟨t, ht, by rw [hp t ht, if_pos rfl]; exact this.1.symm, this.2⟩
 ·rintro ⟨s, a, b, c⟩
  rw [hp s a] at b
  by_cases e : s = t
  ·subst e
   rw [if_pos rfl] at b
   subst b
   exact ⟨.inr (by simp [c]), fun e => hy s ht e.symm⟩
  ·rw [if_neg e] at b
   exact ⟨.inl ⟨s, a, b, c⟩, fun e' => e (h.inj a ht (by rw [b, e']))⟩
end Go.Proofs.YteiaeaciaglmgaaGreat
namespace Go.Proofs.YteiaeaciaglmgaaGreat
/-- behind the first i spots of lot k -/
def inLot (f : Flow) (k i s : Nat) : Int := mvI ((lotAt f.lots k).ins.take i) (lotAt f.lots k).perm (beforeI f k) (spotAt f (s : Int) k)
theorem inLot_zero (f : Flow) (k s : Nat) : inLot f k 0 s = spotAt f (s : Int) k := by unfold inLot mvI hasB; simp
theorem inLot_end (f : Flow) (k s : Nat) : inLot f k (lotAt f.lots k).ins.length s = spotAt f (s : Int) (k + 1) := by unfold inLot; rw [List.take_length]; rfl
theorem spot_asg {f : Flow} (h0 : 0 ≤ f.senders) {k : Nat} (hl : lotsB f k = true) (hk : ∀ j, j < k → (lotAt f.lots j).known = true) : ∃ p, p.length = f.senders.toNat ∧ AllAt f k p ∧ ∀ s : Nat, s < f.senders.toNat → nth p s = spotAt f (s : Int) k := by
 obtain ⟨p, hp⟩ := List.exists_mem_of_ne_nil _ (asg_ne h0 k hl)
 refine ⟨p, asg_len k p hp, asg_all h0 k hl p hp, fun s hs => (asg_last h0 (show (s : Int) < f.senders by omega) k hl p hp).1 ?_⟩
 by_cases h : 0 ≤ unkTo f (s : Int) k
 ·obtain ⟨j, a, _, c⟩ := unk_is h
  rw [hk j a] at c
  cases c
 ·omega
theorem idx_take {l : List Int} (hn : l.Nodup) {i j : Nat} (hj : j < i) (hi : i ≤ l.length) : (l.take i).idxOf (nth l j) = j ∧ hasB (l.take i) (nth l j) = true := by
 have hjl : j < (l.take i).length := by rw [List.length_take]; omega
 have e : nth l j = (l.take i)[j] := by
  rw [List.getElem_take]
  exact nth_lt (by omega)
 rw [e]
 exact ⟨List.Nodup.idxOf_getElem (List.Nodup.sublist (List.take_sublist _ _) hn) j hjl, hasB_mem.2 (List.getElem_mem _)⟩
theorem take_no {l : List Int} (hn : l.Nodup) {i j : Nat} (hj : i ≤ j) (hi : j < l.length) : hasB (l.take i) (nth l j) = false := by
 cases h : hasB (l.take i) (nth l j) with
 | false => rfl
 | true =>
  obtain ⟨m, hm, e⟩ := List.mem_iff_getElem.1 (hasB_mem.1 h)
  rw [List.length_take] at hm
  rw [List.getElem_take] at e
  have e2 : nth l m = nth l j := by rw [nth_lt (by omega)]; exact e
  have := nth_injC hn (by omega) hi e2
  omega
theorem spot_before {f : Flow} {k : Nat} (h0 : 0 ≤ f.senders) (hl : lotsB f k = true) (hk : ∀ j, j < k + 1 → (lotAt f.lots j).known = true) {s : Nat} (hs : s < f.senders.toNat) : spotAt f (s : Int) k < beforeI f k := by
 obtain ⟨p, h1, h2, h3⟩ := spot_asg h0 hl (fun j hj => hk j (by omega))
 rw [← h3 s hs]
 exact ((h2.2 _).1 (nth_mem' (by omega))).2.1
theorem perm_at {f : Flow} {k : Nat} (hb : lotB f k = true) (hk : ∀ j, j < k + 1 → (lotAt f.lots j).known = true) {i : Nat} (hi : i < (lotAt f.lots k).ins.length) : 0 ≤ nth (lotAt f.lots k).perm i ∧ nth (lotAt f.lots k).perm i < (lotAt f.lots k).ins.length ∧ (lotAt f.lots k).perm.length = (lotAt f.lots k).ins.length ∧ (lotAt f.lots k).perm.Nodup := by
 obtain ⟨q1, q2, q3, q4, _⟩ := lotB_parts hb
 have hp := permB_parts (q4 (hk k (by omega)))
 have := hp.1 _ (nth_mem' (show i < (lotAt f.lots k).perm.length by omega))
 exact ⟨this.1, this.2, hp.2.1, hp.2.2⟩
section
variable {f : Flow} {k : Nat} (h0 : 0 ≤ f.senders) (hl : lotsB f k = true) (hb : lotB f k = true) (hk : ∀ j, j < k + 1 → (lotAt f.lots j).known = true)
include h0 hl hb hk
theorem inLot_at {i : Nat} (hi : i < (lotAt f.lots k).ins.length) : ∃ t, t < f.senders.toNat ∧ inLot f k i t = nth (lotAt f.lots k).ins i := by
 obtain ⟨p, h1, h2, h3⟩ := spot_asg h0 hl (fun j hj => hk j (by omega))
 obtain ⟨q1, q2, q3, _⟩ := lotB_parts hb
 obtain ⟨m, hm, e⟩ := List.mem_iff_getElem.1 ((h2.2 _).2 (q3 _ (nth_mem' hi)))
 rw [h1] at hm
 have e' : spotAt f (m : Int) k = nth (lotAt f.lots k).ins i := by rw [← h3 m hm, ← e]; exact nth_lt (by omega)
 refine ⟨m, hm, ?_⟩
 unfold inLot mvI
 rw [e', take_no q2 (Nat.le_refl _) hi, if_neg (by decide)]
/-- one letter goes on, the others stay -/
theorem inLot_step {i t : Nat} (hi : i < (lotAt f.lots k).ins.length) (ht : t < f.senders.toNat) (he : inLot f k i t = nth (lotAt f.lots k).ins i) :
  ∀ s, s < f.senders.toNat → inLot f k (i + 1) s = if s = t then beforeI f k + nth (lotAt f.lots k).perm i else inLot f k i s := by
 obtain ⟨p, h1, h2, h3⟩ := spot_asg h0 hl (fun j hj => hk j (by omega))
 obtain ⟨q1, q2, q3, q4, _⟩ := lotB_parts hb
 have hlt := (q3 _ (nth_mem' hi)).2.1
 have het : spotAt f (t : Int) k = nth (lotAt f.lots k).ins i := by
  unfold inLot mvI at he
  by_cases hh : hasB ((lotAt f.lots k).ins.take i) (spotAt f (t : Int) k) = true
  ·rw [if_pos hh] at he
   obtain ⟨m, hm, e⟩ := List.mem_iff_getElem.1 (hasB_mem.1 hh)
   rw [List.length_take] at hm
   rw [List.getElem_take] at e
   have e2 : spotAt f (t : Int) k = nth (lotAt f.lots k).ins m := by rw [nth_lt (by omega)]; exact e.symm
   rw [e2, (idx_take q2 (show m < i by omega) (by omega)).1] at he
   have := (perm_at hb hk (show m < (lotAt f.lots k).ins.length by omega)).1
   omega
  ·rw [if_neg hh] at he; exact he
 intro s hs
 by_cases e : s = t
 ·subst e
  rw [if_pos rfl]
  unfold inLot mvI
  rw [het, (idx_take q2 (show i < i + 1 by omega) (by omega)).2, if_pos rfl, (idx_take q2 (show i < i + 1 by omega) (by omega)).1]
 ·rw [if_neg e]
  have hne : spotAt f (s : Int) k ≠ nth (lotAt f.lots k).ins i := by
   rw [← het, ← h3 s hs, ← h3 t ht]
   intro e2
   exact e (nth_injC h2.1 (by omega) (by omega) e2)
  unfold inLot mvI
  by_cases hh : hasB ((lotAt f.lots k).ins.take i) (spotAt f (s : Int) k) = true
  ·rw [if_pos hh]
   obtain ⟨m, hm, e⟩ := List.mem_iff_getElem.1 (hasB_mem.1 hh)
   rw [List.length_take] at hm
   rw [List.getElem_take] at e
   have e2 : spotAt f (s : Int) k = nth (lotAt f.lots k).ins m := by rw [nth_lt (by omega)]; exact e.symm
   rw [e2, (idx_take q2 (show m < i by omega) (by omega)).1, (idx_take q2 (show m < i + 1 by omega) (by omega)).2, if_pos rfl, (idx_take q2 (show m < i + 1 by omega) (by omega)).1]
  ·rw [if_neg hh]
   have : ¬ hasB ((lotAt f.lots k).ins.take (i + 1)) (spotAt f (s : Int) k) = true := by
    intro hh'
    rw [List.take_succ_eq_append_getElem hi] at hh'
    rcases List.mem_append.1 (hasB_mem.1 hh') with h | h
    ·exact hh (hasB_mem.2 h)
    ·exact hne (by rw [nth_lt hi]; exact List.mem_singleton.1 h)
   rw [if_neg this]
theorem inLot_fresh {i s : Nat} (hi : i < (lotAt f.lots k).ins.length) (hs : s < f.senders.toNat) : inLot f k i s ≠ beforeI f k + nth (lotAt f.lots k).perm i := by
 obtain ⟨q1, q2, q3, q4, _⟩ := lotB_parts hb
 have hp := perm_at hb hk hi
 have hsb := spot_before h0 hl hk hs
 unfold inLot mvI
 by_cases hh : hasB ((lotAt f.lots k).ins.take i) (spotAt f (s : Int) k) = true
 ·rw [if_pos hh]
  obtain ⟨m, hm, e⟩ := List.mem_iff_getElem.1 (hasB_mem.1 hh)
  rw [List.length_take] at hm
  rw [List.getElem_take] at e
  have e2 : spotAt f (s : Int) k = nth (lotAt f.lots k).ins m := by rw [nth_lt (by omega)]; exact e.symm
  rw [e2, (idx_take q2 (show m < i by omega) (by omega)).1]
  intro e3
  have e4 : nth (lotAt f.lots k).perm m = nth (lotAt f.lots k).perm i := by omega
  have := nth_injC hp.2.2.2 (by omega) (by omega) e4
  omega
 ·rw [if_neg hh]
  omega
end
/-- the spots of the senders fit into a machine word -/
theorem mapL_at {f : Flow} {s : Nat} (hs : s < f.senders.toNat) : nth (mapL f) s = spotAt f (s : Int) f.lots.length := by
 unfold mapL nth
 rw [List.getD_eq_getElem?_getD, List.getElem?_map, List.getElem?_range hs]
 rfl
theorem mapL_len (f : Flow) : (mapL f).length = f.senders.toNat := by simp [mapL]
end Go.Proofs.YteiaeaciaglmgaaGreat
namespace Go.Proofs.YteiaeaciaglmgaaGreat
theorem knownB_at {f : Flow} (h : knownB f = true) : ∀ j, j < f.lots.length → (lotAt f.lots j).known = true := by
 unfold knownB at h
 exact anyUnk_false (by simpa using h)
theorem known_knownB {f : Flow} (h : ∀ j, j < f.lots.length → (lotAt f.lots j).known = true) : knownB f = true := by
 unfold knownB
 cases hu : anyUnk f.lots f.lots.length with
 | false => rfl
 | true =>
  exfalso
  have : ∀ k, k ≤ f.lots.length → anyUnk f.lots k = false := fun k => by
   induction k with
   | zero => intro _; rfl
   | succ k ih => intro hk; simp only [anyUnk, ih (by omega), h k (by omega)]; rfl
  rw [this _ (Nat.le_refl _)] at hu
  cases hu
end Go.Proofs.YteiaeaciaglmgaaGreat
namespace Go.Proofs.YteiaeaciaglmgaaGreat
open Go.RowKit
def mapE (f : Flow) : Int := if checkE f ≠ 0 then checkE f else if knownB f then 0 else 1
def mapR (f : Flow) : List Int := if mapE f = 0 then mapL f else []
/-- what holds while the map is made: bm: its block, P: where the first n senders are -/
def MapInv (w W : World) (bm : Nat) (fb : Array Value) (n : Nat) (P : Nat → Int) : Prop :=
 Below w.heap.size w W ∧ Box W w.heap.size fb ∧ w.heap.size < bm ∧ ∃ l, IntMap W bm l ∧ Sat n P l
theorem IntMap.kept {r : Nat} {w w' : World} {l : AL} {row : Option Nat} (h : IntMap w r l) (hg : w.grownBy w' row) (hne : some r ≠ row) : IntMap w' r l := by
 obtain ⟨es, c, h1, h2⟩ := h
 exact ⟨es, c, (hg.block r (Array.getElem?_eq_some_iff.1 h1).1 hne).trans h1, h2⟩
theorem MapInv.ext {w W W' : World} {bm n : Nat} {fb : Array Value} {P : Nat → Int} (h : MapInv w W bm fb n P) (hb : Below W.heap.size W W') : MapInv w W' bm fb n P := by
 obtain ⟨h1, h2, h3, l, h4, h5⟩ := h
 exact ⟨h1.trans (hb.mono h1.size), h2.ext hb, h3, l, h4.ext hb, h5⟩
theorem MapInv.alloc {w W : World} {bm n : Nat} {fb : Array Value} {P : Nat → Int} (h : MapInv w W bm fb n P) (o : Obj) : MapInv w (W.alloc o) bm fb n P := h.ext (box_below' W o)
theorem MapInv.count {w W : World} {bm n bc : Nat} {fb : Array Value} {P : Nat → Int} (h : MapInv w W bm fb n P) (hc : bm < bc) (v : Value) : MapInv w (W.setCell ⟨bc, 0, none⟩ v) bm fb n P := by
 obtain ⟨h1, h2, h3, l, h4, h5⟩ := h
 have hg := grown_setCell W ⟨bc, 0, none⟩ v
 exact ⟨h1.setCell (by show w.heap.size ≤ bc; omega) _, h2.grown hg (by simp; omega), h3, l, h4.setCell _ _ (by show bm ≠ bc; omega), h5⟩
theorem MapInv.go {w W W' : World} {bm n n' : Nat} {fb : Array Value} {P P' : Nat → Int} {l' : AL} (h : MapInv w W bm fb n P) (hm : IntMap W' bm l') (hs : Sat n' P' l') (hg : W.grownBy W' (some bm)) : MapInv w W' bm fb n' P' := by
 obtain ⟨h1, h2, h3, l, h4, h5⟩ := h
 exact ⟨h1.grown hg h1.size (fun q hq => by cases hq; omega), h2.grown hg (by simp; omega), h3, l', hm, hs⟩
theorem MapInv.eq {w W : World} {bm n : Nat} {fb : Array Value} {P P' : Nat → Int} (h : MapInv w W bm fb n P) (he : ∀ s, s < n → P s = P' s) : MapInv w W bm fb n P' := by
 obtain ⟨h1, h2, h3, l, h4, h5⟩ := h
 exact ⟨h1, h2, h3, l, h4, h5.eq he⟩
theorem MapInv.lt {w W : World} {bm n : Nat} {fb : Array Value} {P : Nat → Int} (h : MapInv w W bm fb n P) : bm < W.heap.size := by obtain ⟨_, _, _, l, h4, _⟩ := h; exact h4.lt
set_option maxHeartbeats 8000000 in
set_option maxRecDepth 100000 in
/-- flows.Map -/
theorem fmap_any (B : Nat) (w : World) (vs vl : Value) (f : Flow) (hf : IsFlow B w vs vl f) (hB : B ≤ w.heap.size) :
  Calls Tryz.prog 33 #[.agg #[vs, vl]] w fun e w' => ∃ v, e = .returned (.tuple #[v, .int .i64 (mapE f)]) ∧ OwnInts w.heap.size w' v (mapR f) ∧ Below w.heap.size w w' := by
 by_cases hck : checkE f = 0
 ·have HF := Lib.hid hf
  have HCK := Lib.hid hck
  obtain ⟨h0, h64, h2000, h50, hlots⟩ := checkE_ok hck
  have HC := Lib.hid (fun o => fcheck_any B (w.alloc o) _ _ f (HF.out.below (box_below hB o) (Nat.le_refl _)) (by simp; omega))
  have HK := Lib.hid (fun W (hW : Below w.heap.size w W) => known_any B W _ _ f (HF.out.below hW hB) (Nat.le_trans hB hW.size))
  have HLT := Lib.hid hlots
  have H50 := Lib.hid h50
  obtain ⟨rfl, ⟨hs1, hs2⟩, hl⟩ := hf
  obtain ⟨b, off, cap, ⟨a, rfl, hcap, hmax, ha⟩, hlen, hc⟩ := hl
  have HCL := Lib.hid hc
  have HA := Lib.hid ha
  have HBB : Hid (∀ k, k ≤ f.lots.length → 0 ≤ beforeI f k ∧ beforeI f k ≤ 50000) := Lib.hid fun k hk => before_bd hck hk
  obtain ⟨n, hn⟩ : ∃ n : Nat, f.senders = (n : Int) := ⟨f.senders.toNat, by omega⟩
  have hn64 : n ≤ 64 := by omega
  have hB0 : beforeI f 0 = (n : Int) := hn
  have HB0 := Lib.hid hB0
  have HTN : Hid (f.senders.toNat = n) := Lib.hid (by omega)
  have HS0 : Hid (0 ≤ f.senders) := Lib.hid h0
  rw [hck] at HC
  rw [hn] at HF HC HK ⊢
  clear hc ha hlots h50 hck hn h0 h64 hB0 hs1 hs2
  go_enter Tryz.func33, Tryz.ntmps33
  go_wp2_with fail
  refine (HC.out _).mono ?_
  rintro e w1 ⟨rfl, hb1⟩
  have HX1 := Lib.hid ((Box.new w #[.int .i64 (n : Int), .slice a f.lots.length cap] 24).ext hb1)
  have HW1 : Hid (Below w.heap.size w w1) := Lib.hid ((box_below' w _).trans (hb1.mono (by simp)))
  obtain ⟨z1, r1⟩ := HX1.out
  clear hb1
  go_wp2_with fail
  refine (HK.out w1 HW1.out).mono ?_
  rintro e w2 ⟨rfl, hb2⟩
  have HX2 := Lib.hid (HX1.out.ext hb2)
  have HW2 : Hid (Below w.heap.size w w2) := Lib.hid (HW1.out.trans (hb2.mono HW1.out.size))
  clear hb2 z1 r1
  obtain ⟨z2, r2⟩ := HX2.out
  cases hkn : knownB f
  ·have HE : Hid (mapE f = 1) := Lib.hid (by unfold mapE; rw [if_neg (by rw [HCK.out]; simp), hkn]; rfl)
   have HR : Hid (mapR f = []) := Lib.hid (by unfold mapR; rw [if_neg (by rw [HE.out]; decide)])
   clear hkn
   go_wp2
   go_ret2
   exact ⟨.slice none 0 0, by rw [HE.out]; rfl, by rw [HR.out]; exact OwnInts.nil _ _, HW2.out⟩
  ·have HKN := Lib.hid (knownB_at hkn)
   have HE : Hid (mapE f = 0) := Lib.hid (by unfold mapE; rw [if_neg (by rw [HCK.out]; simp), hkn]; rfl)
   have HR : Hid (mapR f = mapL f) := Lib.hid (by unfold mapR; rw [if_pos HE.out])
   have hmm := @run_makeMap Tryz.prog
   clear hkn
   go_wp2
   obtain ⟨bm, hbm⟩ : ∃ x, w2.heap.size = x := ⟨_, rfl⟩
   have HI0 : Hid (MapInv w (w2.alloc (.map #[] 0)) bm #[.int .i64 (n : Int), .slice a f.lots.length cap] 0 (fun s => (s : Int))) := Lib.hid ⟨HW2.out.alloc HW2.out.size _, HX2.out.alloc _, by omega, [], by rw [← hbm]; exact IntMap.made w2, Sat.nil _⟩
   rw [hbm]
   obtain ⟨W0, hW0⟩ : ∃ W, w2.alloc (.map #[] 0) = W := ⟨_, rfl⟩
   rw [hW0] at HI0 ⊢
   clear hW0 hbm z2 r2 hmm
   go_loopw [26] (fun i W => ∃ k : Nat, k ≤ n ∧ i = .int .i64 k ∧ MapInv w W bm #[.int .i64 (n : Int), .slice a f.lots.length cap] k (fun s => (s : Int))) (fun i _ => n - (intOf i).toNat)
   case atStart => exact ⟨0, by omega, rfl, HI0.out⟩
   case round =>
    obtain ⟨k, hk, rfl, hinv⟩ := hrel
    have HI := Lib.hid hinv
    obtain ⟨_, hbx, _, l, hm, hst⟩ := hinv
    have HM := Lib.hid hm
    have HST := Lib.hid hst
    obtain ⟨z3, r3⟩ := hbx
    clear hm hst
    by_cases hlt : k < n
    ·have hlt' : decide ((k : Int) < (n : Int)) = true := decide_eq_true (by omega)
     go_wp2_with (at_mapUpdate; refine wpList_update_ints rfl _ _ _ rfl Tryz.underlying57 Tryz.underlying3 rfl HM.out rfl rfl ?_; intro w8 hm8 hg8 hz8; have HM8 := Lib.hid hm8; have HG8 := Lib.hid hg8; clear hm8 hg8 hz8)
     go_roundw
     case rel => exact ⟨k + 1, by omega, by go_num, HI.out.go HM8.out (HST.out.more (fun s hs e => by omega)) HG8.out⟩
     case measure => simp [intOf]; omega
    ·have hlt' : decide ((k : Int) < (n : Int)) = false := decide_eq_false (by omega)
     obtain rfl : k = n := by omega
     clear HM HST
     go_wp2_with (go_at_call 56; refine (counter_any _ _).mono ?_; rintro e w' ⟨rfl, rfl⟩)
     obtain ⟨bc, hbc⟩ : ∃ x, wr.heap.size = x := ⟨_, rfl⟩
     have hbmc : bm < bc := by have := HI.out.lt; omega
     have HI1 : Hid (MapInv w (wr.alloc (.cells #[.int .i64 (k : Int)] 3)) bm #[.int .i64 (k : Int), .slice a f.lots.length cap] k (fun s => spotAt f (s : Int) 0)) := Lib.hid (HI.out.alloc _)
     have HC1 : Hid (Cell1 (wr.alloc (.cells #[.int .i64 (k : Int)] 3)) bc (.int .i64 (beforeI f 0))) := Lib.hid (by rw [HB0.out, ← hbc]; exact Cell1.new wr _ _)
     rw [hbc]
     obtain ⟨W1, hW1⟩ : ∃ W, wr.alloc (.cells #[.int .i64 (k : Int)] 3) = W := ⟨_, rfl⟩
     rw [hW1] at HI1 HC1 ⊢
     clear hW1 hbc z3 r3 HI HI0
     go_loopw [39] (fun i W => ∃ j : Nat, j ≤ f.lots.length ∧ i = .int .i64 j ∧ MapInv w W bm #[.int .i64 (k : Int), .slice a f.lots.length cap] k (fun s => spotAt f (s : Int) j) ∧ Cell1 W bc (.int .i64 (beforeI f j))) (fun i _ => f.lots.length - (intOf i).toNat)
     case atStart => exact ⟨0, by omega, rfl, HI1.out, HC1.out⟩
     case round =>
      obtain ⟨j, hj, rfl, hinv, hcc⟩ := hrel
      have HI := Lib.hid hinv
      have HCC := Lib.hid hcc
      clear hinv hcc
      by_cases hlt : j < f.lots.length
      ·obtain rfl : a = some ⟨b, off, none⟩ := by rcases HA.out with h | h; exact h; omega
       obtain ⟨vi, vk, vp, ⟨hb, c1⟩, ⟨_, c2⟩, ⟨_, c3⟩, hlot⟩ := HCL.out j hlt
       obtain ⟨⟨b1, off1, cap1, ⟨a1, rfl, hc1, _, ha1⟩, hl1, hz1, hi1⟩, rfl, ⟨b2, off2, cap2, ⟨a2, rfl, hc2, _, ha2⟩, hl2, hz2, hi2⟩⟩ := hlot
       have HWR := Lib.hid HI.out.1
       have q1 := (HWR.out.cell (p := ⟨b, off + j * 3, none⟩) (by show b < _; omega)).trans c1
       have q2 := (HWR.out.cell (p := ⟨b, off + j * 3 + 1, none⟩) (by show b < _; omega)).trans c2
       have q3 := (HWR.out.cell (p := ⟨b, off + j * 3 + 2, none⟩) (by show b < _; omega)).trans c3
       have HG0 := Lib.hid (HBB.out j (by omega))
       have HG1 := Lib.hid (HBB.out (j + 1) (by omega))
       have HBS : Hid (beforeI f (j + 1) = beforeI f j + (lotAt f.lots j).ins.length) := Lib.hid rfl
       have hlj : lotsB f j = true := lotsB_le HLT.out (by omega)
       have hbj : lotB f j = true := lotsB_lot HLT.out hlt
       have hkj : ∀ m, m < j + 1 → (lotAt f.lots m).known = true := fun m hm => HKN.out m (by omega)
       have HAT := Lib.hid (fun i hi => HTN.out ▸ inLot_at HS0.out hlj hbj hkj (i := i) hi)
       have HPA := Lib.hid (fun i hi => perm_at hbj hkj (i := i) hi)
       have HSTP := Lib.hid (fun i t hi ht he => HTN.out ▸ inLot_step HS0.out hlj hbj hkj (i := i) (t := t) hi (by rw [HTN.out]; exact ht) he)
       have HFR := Lib.hid (fun i s hi hs => inLot_fresh HS0.out hlj hbj hkj (i := i) (s := s) hi (by rw [HTN.out]; exact hs))
       have HZ := Lib.hid (inLot_zero f j)
       have HEN := Lib.hid (inLot_end f j)
       have HI1' := Lib.hid hi1
       have HI2' := Lib.hid hi2
       have HZ1 := Lib.hid hz1
       have HZ2 := Lib.hid hz2
       have HA1 := Lib.hid ha1
       have HA2 := Lib.hid ha2
       obtain ⟨d, hd⟩ : ∃ d, lotAt f.lots j = d := ⟨_, rfl⟩
       rw [hd] at q1 q2 q3 HBS hl1 hl2 hc1 hc2 HAT HPA HSTP HFR HEN HI1' HI2' HZ1 HZ2 HA1 HA2
       clear hd c1 c2 c3 hlj hbj hkj hi1 hi2 hz1 hz2 ha1 ha2
       obtain ⟨m, hm⟩ : ∃ m, wr.heap.size = m := ⟨_, rfl⟩
       have hwm : w.heap.size < m ∧ bc < m ∧ bm < m := by rw [← hm]; exact ⟨by have := HI.out.lt; have := HI.out.2.2.1; omega, HCC.out.lt, HI.out.lt⟩
       go_wp2_with fail
       refine (count_any (beforeI f j) d.ins.length bc _ (HCC.out.alloc _) (by have := HG0.out; omega) (by have := HG0.out; omega) (by omega) (by omega)).mono ?_
       rintro e w' ⟨rfl, rfl⟩
       have HI3 : Hid (MapInv w ((wr.alloc (.cells #[.slice a1 d.ins.length cap1, .bool d.known, .slice a2 d.perm.length cap2] 64)).setCell ⟨bc, 0, none⟩ (.int .i64 (beforeI f j + d.ins.length))) bm #[.int .i64 (k : Int), .slice (some ⟨b, off, none⟩) f.lots.length cap] k (inLot f j 0)) := Lib.hid (((HI.out.alloc _).count hbmc _).eq (fun s _ => (HZ.out s).symm))
       have HC3 : Hid (Cell1 ((wr.alloc (.cells #[.slice a1 d.ins.length cap1, .bool d.known, .slice a2 d.perm.length cap2] 64)).setCell ⟨bc, 0, none⟩ (.int .i64 (beforeI f j + d.ins.length))) bc (.int .i64 (beforeI f (j + 1)))) := Lib.hid (by rw [HBS.out]; exact (HCC.out.alloc _).set _)
       have HX3 : Hid (Box ((wr.alloc (.cells #[.slice a1 d.ins.length cap1, .bool d.known, .slice a2 d.perm.length cap2] 64)).setCell ⟨bc, 0, none⟩ (.int .i64 (beforeI f j + d.ins.length))) m #[.slice a1 d.ins.length cap1, .bool d.known, .slice a2 d.perm.length cap2]) :=
        Lib.hid (by rw [← hm] at hwm ⊢; exact (Box.new wr _ _).grown (grown_setCell _ _ _) (by simp; omega))
       obtain ⟨w3, hw3⟩ : ∃ w3, ((wr.alloc (.cells #[.slice a1 d.ins.length cap1, .bool d.known, .slice a2 d.perm.length cap2] 64)).setCell ⟨bc, 0, none⟩ (.int .i64 (beforeI f j + d.ins.length))) = w3 := ⟨_, rfl⟩
       rw [hw3] at HI3 HC3 HX3 ⊢
       clear hw3 q1 q2 q3 hm HI HCC HI1 HC1
       obtain ⟨z3, r3⟩ := HX3.out
       go_wp2
       go_loopw [51] (fun i W => ∃ q : Nat, q ≤ d.ins.length ∧ i = .int .i64 q ∧ MapInv w W bm #[.int .i64 (k : Int), .slice (some ⟨b, off, none⟩) f.lots.length cap] k (inLot f j q) ∧ w3.grownBy W (some bm)) (fun i _ => d.ins.length - (intOf i).toNat)
       case atStart => exact ⟨0, by omega, rfl, HI3.out, grown_refl _ _⟩
       case round =>
        obtain ⟨q, hq, rfl, hinv, hgr⟩ := hrel
        have HI := Lib.hid hinv
        have HGR := Lib.hid hgr
        clear hinv hgr r3
        by_cases hlq : q < d.ins.length
        ·obtain rfl : a1 = some ⟨b1, off1, none⟩ := by rcases HA1.out with h | h; exact h; omega
         obtain ⟨g1, g2, g3, g4⟩ := HPA.out q hlq
         have hqp : q < d.perm.length := by omega
         clear g3 g4
         obtain rfl : a2 = some ⟨b2, off2, none⟩ := by rcases HA2.out with h | h; exact h; omega
         have HWI := Lib.hid HI.out.1
         have x1 := (HWI.out.cell (p := ⟨b1, off1 + q, none⟩) (by have := (HI1'.out q hlq).1; show b1 < _; omega)).trans (HI1'.out q hlq).2
         obtain ⟨t, ht, het⟩ := HAT.out q hlq
         have HSTEP := Lib.hid (HSTP.out q t hlq ht het)
         have HFRE := Lib.hid (fun s hs => HFR.out q s hlq hs)
         have HET := Lib.hid het
         obtain ⟨_, _, hbm0, l, hml, hsl⟩ := id HI.out
         have HML := Lib.hid hml
         have HSL := Lib.hid hsl
         have HLK : Hid (alook l (nth d.ins q) = some (.int .i64 (t : Int))) := Lib.hid (by rw [← het]; exact hsl.look ht)
         have HG0' := HG0.out
         have HG1' := HG1.out
         rw [HBS.out] at HG1'
         obtain ⟨bv, hbv⟩ : ∃ x, beforeI f j = x := ⟨_, rfl⟩
         have HBV := Lib.hid hbv
         rw [hbv] at HG0' HG1' HSTEP HFRE ⊢
         clear hml hsl het hbv
         obtain ⟨ix, hix⟩ : ∃ x, nth d.ins q = x := ⟨_, rfl⟩
         have HIX := Lib.hid hix
         rw [hix] at x1 HLK HET
         clear hix
         have hcq := HI2'.out q hqp
         obtain ⟨px, hpx⟩ : ∃ x, nth d.perm q = x := ⟨_, rfl⟩
         have HPX := Lib.hid hpx
         rw [hpx] at hcq g1 g2 HSTEP HFRE
         clear hpx
         have HSUM : Hid (IntKind.i64.wrap (bv + px) = bv + px) := Lib.hid (by rw [IntWalk.i64_in _ (by omega)])
         have HKB : Hid (∀ W, wr.grownBy W (some bm) → W.cell? ⟨m, 2, none⟩ = some (.slice (some ⟨b2, off2, none⟩) d.perm.length cap2) ∧ W.cell? ⟨b2, off2 + q, none⟩ = some (.int .i64 px)) := Lib.hid fun W hW => by
          have hgg := grown_trans HGR.out hW
          refine ⟨(grown_cell hgg z3 (by simp; omega)).trans (HX3.out.2 2), ?_⟩
          have h1 := HWI.out.grown hW HWI.out.size (fun z hz => by cases hz; omega)
          exact (h1.cell (p := ⟨b2, off2 + q, none⟩) (by have := hcq.1; show b2 < _; omega)).trans hcq.2
         obtain ⟨W4, rfl⟩ : ∃ W, W = wr := ⟨_, rfl⟩
         clear hcq
         go_upto_region 20 with fail
         obtain ⟨V, hV⟩ : ∃ V : List (Option Value), V = [some (.map (some bm)), some (.int .i64 bv), some (.pointer (some ⟨m, 2, none⟩)), some (.slice (some ⟨b2, off2, none⟩) d.perm.length cap2), some (.int .i64 (q : Int)), some (.pointer (some ⟨b2, off2 + q, none⟩)), some (.int .i64 px), some (.int .i64 (bv + px)), some (.map (some bm)), some (.int .i64 ix), some (.int .i64 (t : Int)), none] := ⟨_, rfl⟩
         have HVV := Lib.hid hV
         clear hV
         refine wp_region_V [some 56, some 57, some 58, some 59, some 60, some 61, some 62, some 63, some 64, some 65, some 66, none] (fun L w' xs => ValsAt V L xs ∧ ((L 11 = false → IntMap w' bm l) ∧ (L 11 = true → IntMap w' bm (aset l (bv + px) (.int .i64 (t : Int)))) ∧ W4.grownBy w' (some bm) ∧ (L 11 = true → L 10 = true))) (by kernel_rfl) (by kernel_rfl) (by rfl) (by rfl) (by rfl) ?_ ?_ ?_
         focus
          exact fun xs => ⟨ValsAt.none _ _, (fun _ => HML.out), (fun h => by cases h), grown_drew _ _, (fun h => by cases h)⟩
         focus
          refine ⟨?_, ?_, ?_, ?_, ?_, ?_, ?_, ?_, ?_, ?_, ?_, ?_, trivial⟩
          all_goals
           intro L a' w' xs hi hd hf hJ K hK
           obtain ⟨hv, h0', h1', hgW, hcW⟩ := hJ
           have HF := Lib.hid hf
           have HVA := Lib.hid hv
           have HLI := Lib.hid hi
           clear hf hv hi
          focus
           clear hd
           obtain ⟨ρ, hρ⟩ : ∃ ρ, a'.eval = ρ := ⟨_, rfl⟩
           have hcst := cstE hρ
           have l5 : ρ (.tmp 5) = .map (some bm) := (congrFun hρ (.tmp 5)).symm.trans (HF.out.lo 5 rfl)
           rw [if_pos (by simp [Region.wanted])]
           unfold Oper.wp
           rw [hρ]
           clear hρ
           go_simp
           exact hK.out _ _ ⟨HVA.out.set (i := 0) (by rw [HVV.out]; rfl), h0', h1', hgW, hcW⟩
          focus
           clear hd
           obtain ⟨ρ, hρ⟩ : ∃ ρ, a'.eval = ρ := ⟨_, rfl⟩
           have hcst := cstE hρ
           have l10 : ρ (.tmp 10) = .int .i64 bv := (congrFun hρ (.tmp 10)).symm.trans (HF.out.lo 10 rfl)
           rw [if_pos (by simp [Region.wanted])]
           unfold Oper.wp
           rw [hρ]
           clear hρ
           go_simp
           exact hK.out _ _ ⟨HVA.out.set (i := 1) (by rw [HVV.out]; rfl), h0', h1', hgW, hcW⟩
          focus
           clear hd
           obtain ⟨ρ, hρ⟩ : ∃ ρ, a'.eval = ρ := ⟨_, rfl⟩
           have hcst := cstE hρ
           have l9 : ρ (.tmp 9) = .pointer (some ⟨m, 0, none⟩) := (congrFun hρ (.tmp 9)).symm.trans (HF.out.lo 9 rfl)
           rw [if_pos (by simp [Region.wanted])]
           unfold Oper.wp
           rw [hρ]
           clear hρ
           go_simp
           exact hK.out _ _ ⟨HVA.out.set (i := 2) (by rw [HVV.out]; rfl), h0', h1', hgW, hcW⟩
          focus
           obtain ⟨d2, _⟩ := hd
           obtain ⟨ρ, hρ⟩ : ∃ ρ, a'.eval = ρ := ⟨_, rfl⟩
           have hcst := cstE hρ
           have v2 : ρ (.tmp 58) = .pointer (some ⟨m, 2, none⟩) := (congrFun hρ (.tmp 58)).symm.trans ((HF.out.ev 2 rfl d2).trans (HVA.out 2 _ (by rw [HVV.out]; rfl) d2))
           obtain ⟨k0, k1⟩ := HKB.out _ hgW
           rw [if_pos (by simp [Region.wanted])]
           unfold Oper.wp
           rw [hρ]
           clear hρ
           go_simp
           exact hK.out _ _ ⟨HVA.out.set (i := 3) (by rw [HVV.out]; rfl), h0', h1', hgW, hcW⟩
          focus
           clear hd
           obtain ⟨ρ, hρ⟩ : ∃ ρ, a'.eval = ρ := ⟨_, rfl⟩
           have hcst := cstE hρ
           have l11 : ρ (.tmp 11) = .int .i64 (q : Int) := (congrFun hρ (.tmp 11)).symm.trans (HF.out.lo 11 rfl)
           rw [if_pos (by simp [Region.wanted])]
           unfold Oper.wp
           rw [hρ]
           clear hρ
           go_simp
           exact hK.out _ _ ⟨HVA.out.set (i := 4) (by rw [HVV.out]; rfl), h0', h1', hgW, hcW⟩
          focus
           obtain ⟨d3, d4, _⟩ := hd
           obtain ⟨ρ, hρ⟩ : ∃ ρ, a'.eval = ρ := ⟨_, rfl⟩
           have hcst := cstE hρ
           have v3 : ρ (.tmp 59) = .slice (some ⟨b2, off2, none⟩) d.perm.length cap2 := (congrFun hρ (.tmp 59)).symm.trans ((HF.out.ev 3 rfl d3).trans (HVA.out 3 _ (by rw [HVV.out]; rfl) d3))
           have v4 : ρ (.tmp 60) = .int .i64 (q : Int) := (congrFun hρ (.tmp 60)).symm.trans ((HF.out.ev 4 rfl d4).trans (HVA.out 4 _ (by rw [HVV.out]; rfl) d4))
           rw [if_pos (by simp [Region.wanted])]
           unfold Oper.wp
           rw [hρ]
           clear hρ
           go_simp
           exact hK.out _ _ ⟨HVA.out.set (i := 5) (by rw [HVV.out]; rfl), h0', h1', hgW, hcW⟩
          focus
           obtain ⟨d5, _⟩ := hd
           obtain ⟨ρ, hρ⟩ : ∃ ρ, a'.eval = ρ := ⟨_, rfl⟩
           have hcst := cstE hρ
           have v5 : ρ (.tmp 61) = .pointer (some ⟨b2, off2 + q, none⟩) := (congrFun hρ (.tmp 61)).symm.trans ((HF.out.ev 5 rfl d5).trans (HVA.out 5 _ (by rw [HVV.out]; rfl) d5))
           obtain ⟨k0, k1⟩ := HKB.out _ hgW
           rw [if_pos (by simp [Region.wanted])]
           unfold Oper.wp
           rw [hρ]
           clear hρ
           go_simp
           exact hK.out _ _ ⟨HVA.out.set (i := 6) (by rw [HVV.out]; rfl), h0', h1', hgW, hcW⟩
          focus
           obtain ⟨d1, d6, _⟩ := hd
           obtain ⟨ρ, hρ⟩ : ∃ ρ, a'.eval = ρ := ⟨_, rfl⟩
           have hcst := cstE hρ
           have v1 : ρ (.tmp 57) = .int .i64 bv := (congrFun hρ (.tmp 57)).symm.trans ((HF.out.ev 1 rfl d1).trans (HVA.out 1 _ (by rw [HVV.out]; rfl) d1))
           have v6 : ρ (.tmp 62) = .int .i64 px := (congrFun hρ (.tmp 62)).symm.trans ((HF.out.ev 6 rfl d6).trans (HVA.out 6 _ (by rw [HVV.out]; rfl) d6))
           have hsum := HSUM.out
           rw [if_pos (by simp [Region.wanted])]
           unfold Oper.wp
           rw [hρ]
           clear hρ
           go_simp
           exact hK.out _ _ ⟨HVA.out.set (i := 7) (by rw [HVV.out]; rfl), h0', h1', hgW, hcW⟩
          focus
           clear hd
           obtain ⟨ρ, hρ⟩ : ∃ ρ, a'.eval = ρ := ⟨_, rfl⟩
           have hcst := cstE hρ
           have l5 : ρ (.tmp 5) = .map (some bm) := (congrFun hρ (.tmp 5)).symm.trans (HF.out.lo 5 rfl)
           rw [if_pos (by simp [Region.wanted])]
           unfold Oper.wp
           rw [hρ]
           clear hρ
           go_simp
           exact hK.out _ _ ⟨HVA.out.set (i := 8) (by rw [HVV.out]; rfl), h0', h1', hgW, hcW⟩
          focus
           clear hd
           obtain ⟨ρ, hρ⟩ : ∃ ρ, a'.eval = ρ := ⟨_, rfl⟩
           have hcst := cstE hρ
           have l12 : ρ (.tmp 12) = .int .i64 ix := (congrFun hρ (.tmp 12)).symm.trans (HF.out.lo 12 rfl)
           rw [if_pos (by simp [Region.wanted])]
           unfold Oper.wp
           rw [hρ]
           clear hρ
           go_simp
           exact hK.out _ _ ⟨HVA.out.set (i := 9) (by rw [HVV.out]; rfl), h0', h1', hgW, hcW⟩
          focus
           obtain ⟨d8, d9, _⟩ := hd
           have v8 : a'.eval (.tmp 64) = .map (some bm) := (HF.out.ev 8 rfl d8).trans (HVA.out 8 _ (by rw [HVV.out]; rfl) d8)
           have v9 : a'.eval (.tmp 65) = .int .i64 ix := (HF.out.ev 9 rfl d9).trans (HVA.out 9 _ (by rw [HVV.out]; rfl) d9)
           rw [if_pos (by simp [Region.wanted])]
           have hN : L 11 = false := by
            cases e : L 11 with
            | false => rfl
            | true => have := hcW e; rw [HLI.out] at this; cases this
           refine wp_lookup_ints (.tmp 64) (.tmp 65) rfl Tryz.underlying57 Tryz.underlying3 (Tryz.zeroValue3 _) v8 (h0' hN) v9 HLK.out ?_
           exact hK.out _ _ ⟨HVA.out.set (i := 10) (by rw [HVV.out]; rfl), h0', h1', hgW, (fun _ => rfl)⟩
          focus
           obtain ⟨d0, d7, d10, _, d1, d2, d3, d4, d5, d6, _, d8, d9, _, _⟩ := hd
           have v0 : a'.eval (.tmp 56) = .map (some bm) := (HF.out.ev 0 rfl d0).trans (HVA.out 0 _ (by rw [HVV.out]; rfl) d0)
           have v7 : a'.eval (.tmp 63) = .int .i64 (bv + px) := (HF.out.ev 7 rfl d7).trans (HVA.out 7 _ (by rw [HVV.out]; rfl) d7)
           have v10 : a'.eval (.tmp 66) = .int .i64 (t : Int) := (HF.out.ev 10 rfl d10).trans (HVA.out 10 _ (by rw [HVV.out]; rfl) d10)
           rw [if_pos (by simp [Region.wanted])]
           refine wp_update_ints (.tmp 56) (.tmp 63) (.tmp 66) rfl Tryz.underlying57 Tryz.underlying3 v0 (h0' HLI.out) v7 v10 ?_
           intro w3 q1 q2 q3
           exact hK.out undef _ ⟨HVA.out.free (i := 11) (by rw [HVV.out]; rfl) _, (fun h => by cases h), (fun _ => q1), grown_trans hgW q2, (fun _ => d10)⟩
         focus
          intro L w' xs hL hJ
          obtain ⟨hv, h0', h1', hgW, hcW⟩ := hJ
          have e0 : xs 0 = .map (some bm) := hv 0 _ (by rw [HVV.out]; rfl) (hL 0 (by decide))
          have e1 : xs 1 = .int .i64 bv := hv 1 _ (by rw [HVV.out]; rfl) (hL 1 (by decide))
          have e2 : xs 2 = .pointer (some ⟨m, 2, none⟩) := hv 2 _ (by rw [HVV.out]; rfl) (hL 2 (by decide))
          have e3 : xs 3 = .slice (some ⟨b2, off2, none⟩) d.perm.length cap2 := hv 3 _ (by rw [HVV.out]; rfl) (hL 3 (by decide))
          have e4 : xs 4 = .int .i64 (q : Int) := hv 4 _ (by rw [HVV.out]; rfl) (hL 4 (by decide))
          have e5 : xs 5 = .pointer (some ⟨b2, off2 + q, none⟩) := hv 5 _ (by rw [HVV.out]; rfl) (hL 5 (by decide))
          have e6 : xs 6 = .int .i64 px := hv 6 _ (by rw [HVV.out]; rfl) (hL 6 (by decide))
          have e7 : xs 7 = .int .i64 (bv + px) := hv 7 _ (by rw [HVV.out]; rfl) (hL 7 (by decide))
          have e8 : xs 8 = .map (some bm) := hv 8 _ (by rw [HVV.out]; rfl) (hL 8 (by decide))
          have e9 : xs 9 = .int .i64 ix := hv 9 _ (by rw [HVV.out]; rfl) (hL 9 (by decide))
          have e10 : xs 10 = .int .i64 (t : Int) := hv 10 _ (by rw [HVV.out]; rfl) (hL 10 (by decide))
          simp only [putGo, Act.put, List.setIfInBounds_toArray, List.set_cons_zero, List.set_cons_succ, e0, e1, e2, e3, e4, e5, e6, e7, e8, e9, e10]
          clear hv e0 e1 e2 e3 e4 e5 e6 e7 e8 e9 e10
         have HM5 := Lib.hid (h1' (hL 11 (by decide)))
         have HG5 := Lib.hid hgW
         clear h0' h1' hgW hcW hL
         obtain ⟨w5, rfl⟩ : ∃ W, W = w' := ⟨_, rfl⟩
         go_wp2_with (at_delete; refine wpList_delete_ints rfl _ _ rfl Tryz.underlying57 Tryz.underlying3 rfl HM5.out rfl ?_; intro w8 hm8 hg8 hz8; have HM8 := Lib.hid hm8; have HG8 := Lib.hid hg8; clear hm8 hg8 hz8)
         go_roundw
         case rel =>
          refine ⟨q + 1, by omega, by go_num, HI.out.go HM8.out ?_ (grown_trans HG5.out HG8.out), grown_trans HGR.out (grown_trans HG5.out HG8.out)⟩
          have h := HSL.out.move ht HFRE.out HSTEP.out
          rw [HET.out] at h
          exact h
         case measure => simp [intOf]; omega
        ·obtain rfl : q = d.ins.length := by omega
         go_wp2
         go_roundw
         case rel => exact ⟨j + 1, by omega, by go_num, HI.out.eq (fun s _ => HEN.out s), HC3.out.grown HGR.out (by simp; omega)⟩
         case measure => simp [intOf]; omega
      ·obtain rfl : j = f.lots.length := by omega
       obtain ⟨_, hbx, hbm0, l, hml, hsl⟩ := id HI.out
       have HML := Lib.hid hml
       have HSL := Lib.hid hsl
       obtain ⟨z3, r3⟩ := hbx
       have HSZ := Lib.hid HI.out.1.size
       clear hml hsl HI1 HC1
       obtain ⟨W5, rfl⟩ : ∃ W, W = wr := ⟨_, rfl⟩
       go_wp2_with (first
        | (at_make; refine wpList_make_ints (m := k) (C := w.heap.size) rfl _ _ rfl rfl rfl (by omega) HSZ.out ?_; intro w6 ho6 hb6 hz6; have HO6 := Lib.hid ho6; have HB6 := Lib.hid hb6; have HM6 := Lib.hid (HML.out.ext hb6); have hz6' := hz6; clear ho6 hb6 hz6)
        | (refine wpList_range_ints rfl (.tmp 74) rfl Tryz.underlying57 rfl HM6.out ?_; intro w9 hit9 hb9 hz9; have HIT9 := Lib.hid hit9; have HB9 := Lib.hid hb9; have hz9' := hz9; clear hit9 hb9 hz9))
       obtain ⟨g, hg⟩ : ∃ x, W5.heap.size = x := ⟨_, rfl⟩
       obtain ⟨r, hr⟩ : ∃ x, w6.heap.size = x := ⟨_, rfl⟩
       have hgr : w.heap.size ≤ g ∧ r = g + 1 ∧ bm < g := by have := HSZ.out; have := HI.out.lt; omega
       rw [hg] at HO6
       rw [hr] at HIT9
       rw [hg, hr]
       have HO9 := Lib.hid (HO6.out.below HB9.out)
       have HB59 : Hid (Below w.heap.size w w9) := Lib.hid (HI.out.1.trans ((HB6.out.trans (HB9.out.mono (by omega))).mono HI.out.1.size))
       have HMP : Hid (∀ s, s < k → nth (mapL f) s = spotAt f (s : Int) f.lots.length ∧ I64 (spotAt f (s : Int) f.lots.length)) := Lib.hid fun s hs => ⟨mapL_at (by rw [HTN.out]; exact hs), by
        obtain ⟨p, p1, p2, p3⟩ := spot_asg HS0.out HLT.out HKN.out
        rw [← p3 s (by rw [HTN.out]; exact hs)]
        have h1 := (p2.2 _).1 (nth_mem' (l := p) (i := s) (by rw [p1, HTN.out]; exact hs))
        have h2 := HBB.out f.lots.length (Nat.le_refl _)
        unfold I64
        omega⟩
       have HML' : Hid ((mapL f).length = k) := Lib.hid (by rw [mapL_len, HTN.out])
       obtain ⟨n1, n2, n3, n4, n5⟩ : g ≠ r ∧ r ≠ bm ∧ g ≠ bm ∧ w.heap.size ≤ g ∧ w.heap.size ≤ r := by omega
       clear hgr hg hr hz6' hz9' HML HM6 HO6 HB6 HB9 z3 r3
       simp only [Act.put, List.setIfInBounds_toArray, List.set_cons_zero, List.set_cons_succ]
       go_loopw [] (fun W => ∃ left ys, MapIter W bm r l left ∧ OwnInts w.heap.size W (.slice (some ⟨g, 0, none⟩) k k) ys ∧ ys.length = k ∧ (∀ s, s < k → nth ys s = spotAt f (s : Int) f.lots.length ∨ (spotAt f (s : Int) f.lots.length, Value.int .i64 (s : Int)) ∈ left) ∧ (∀ p ∈ left, p ∈ l) ∧ Below w.heap.size w W) (fun W => iterLeft W bm r)
       case atStart => exact ⟨l, List.replicate k 0, HIT9.out, HO9.out, by simp, fun s hs => .inr ((HSL.out.2 _ _).2 ⟨s, hs, rfl, rfl⟩), fun p hp => hp, HB59.out⟩
       case round =>
        obtain ⟨left, ys, hit, ho, hys, hin, hsub, hbl⟩ := hrel
        have HIT := Lib.hid hit
        have HLEFT := Lib.hid hit.left
        have HO := Lib.hid ho
        have HYS := Lib.hid hys
        have HIN := Lib.hid hin
        have HSUB := Lib.hid hsub
        have HBL := Lib.hid hbl
        have hne : r ≠ bm := by omega
        clear hit ho hys hin hsub hbl HIT9 HO9 HB59
        by_cases hlf : left = []
        ·have HRES : Hid (ys = mapL f) := Lib.hid (ext_nth (by rw [HYS.out, HML'.out]) (fun s hs => by
          rw [HYS.out] at hs
          rcases HIN.out s hs with h | h
          ·rw [h, (HMP.out s hs).1]
          ·rw [hlf] at h; cases h))
         go_wp2_with (refine wpList_next_doneA rfl (.tmp 75) rfl rfl HIT.out hne hlf ?_)
         go_ret2
         exact ⟨_, by rw [HE.out]; rfl, by rw [HR.out, ← HRES.out]; exact HO.out, HBL.out⟩
        ·go_wp2_with (refine wpList_next_moreA rfl (.tmp 75) rfl rfl HIT.out hne hlf ?_; intro A x v B' w3 hl2 hit3 hg3 hz3 hen; have HIT3 := Lib.hid hit3; have HG3 := Lib.hid hg3; have HL2 := Lib.hid hl2; obtain ⟨s, hs, hps, rfl⟩ := (HSL.out.2 x v).1 (HSUB.out _ (by rw [hl2]; simp)); have HPS := Lib.hid hps; have hs' : s < ys.length := (by rw [HYS.out]; exact hs); have HO3 := Lib.hid (HO.out.kept hg3 (.inr (by simp [Value.ownBlock]; omega))); have c1 := HO3.out.cellAt HYS.out.symm hs'; have c2 := HO3.out.freeAt HYS.out.symm s; have hsk : (s : Int) < (k : Int) := (by omega); clear hit3 hg3 hz3 hl2 hps)
         have hl2 := HL2.out
         have hps := HPS.out
         have HB3 : Hid (Below w.heap.size w w3) := Lib.hid (HBL.out.grown HG3.out HBL.out.size (fun z hz => by cases hz; omega))
         have HST := Lib.hid (HO3.out.store HYS.out.symm s (y := x) (by rw [← hps]; exact (HMP.out s hs).2))
         have HLN : Hid ((A ++ B').length < left.length) := Lib.hid (by rw [hl2]; simp)
         have HSUB2 : Hid (∀ p ∈ A ++ B', p ∈ l) := Lib.hid fun p hp => HSUB.out p (by
          rw [hl2]
          rcases List.mem_append.1 hp with h | h
          ·exact List.mem_append_left _ h
          ·exact List.mem_append_right _ (List.mem_cons_of_mem _ h))
         have HIN2 : Hid (∀ u, u < k → nth (ys.set s x) u = spotAt f (u : Int) f.lots.length ∨ (spotAt f (u : Int) f.lots.length, Value.int .i64 (u : Int)) ∈ A ++ B') := Lib.hid fun u hu => by
          by_cases e : u = s
          ·subst e
           left
           unfold nth
           rw [List.getD_eq_getElem?_getD, List.getElem?_set_self hs', ← hps]
           rfl
          ·rcases HIN.out u hu with h | h
           ·left
            rw [← h]
            unfold nth
            rw [List.getD_eq_getElem?_getD, List.getElem?_set_ne (fun h => e h.symm), ← List.getD_eq_getElem?_getD]
           ·right
            rw [hl2] at h
            rcases List.mem_append.1 h with h | h
            ·exact List.mem_append_left _ h
            ·rcases List.mem_cons.1 h with h | h
             ·simp only [Prod.mk.injEq, Value.int.injEq] at h
              exact absurd (by have := h.2; omega) e
             ·exact List.mem_append_right _ h
         clear hl2 hps
         go_roundw
         case rel => exact ⟨A ++ B', ys.set s x, HIT3.out.kept (grown_setCell _ ⟨g, s, none⟩ _) (by simp; omega) (by simp; omega), HST.out, by rw [List.length_set]; exact HYS.out, HIN2.out, HSUB2.out, HB3.out.setCell (p := ⟨g, s, none⟩) (by show w.heap.size ≤ g; omega) _⟩
         case measure =>
          have h1 := (HIT3.out.kept (grown_setCell _ ⟨g, s, none⟩ (.int .i64 x)) (by simp; omega) (by simp; omega)).left
          rw [h1, HLEFT.out]
          exact HLN.out
 ·have HF := Lib.hid hf
  have HE : Hid (mapE f = checkE f) := Lib.hid (by unfold mapE; rw [if_pos hck])
  have HR : Hid (mapR f = []) := Lib.hid (by unfold mapR; rw [if_neg (by rw [HE.out]; exact hck)])
  have HC := Lib.hid (fun o => fcheck_any B (w.alloc o) _ _ f (HF.out.below (box_below hB o) (Nat.le_refl _)) (by simp; omega))
  have hck1 : (checkE f != 0) = true := by simpa using hck
  obtain ⟨rfl, ⟨hs1, hs2⟩, hl⟩ := hf
  obtain ⟨b, off, cap, ⟨a, rfl, hcap, hmax, ha⟩, hlen, hc⟩ := hl
  clear hc ha hck
  go_enter Tryz.func33, Tryz.ntmps33
  go_wp2_with fail
  refine (HC.out _).mono ?_
  rintro e w1 ⟨rfl, hb1⟩
  have HW1 : Hid (Below w.heap.size w w1) := Lib.hid ((box_below' w _).trans (hb1.mono (by simp)))
  clear hb1
  go_wp2
  go_ret2
  exact ⟨.slice none 0 0, by rw [HE.out]; rfl, by rw [HR.out]; exact OwnInts.nil _ _, HW1.out⟩
end Go.Proofs.YteiaeaciaglmgaaGreat
namespace Go.Proofs.YteiaeaciaglmgaaGreat
open Go.RowKit
theorem IsIntsX.keepX {g : Nat} {w w' : World} {v : Value} {xs : List Int} {row : Option Nat} (h : IsIntsX (fun q => q ≠ g) w v xs) (hg : w.grownBy w' row) (hr : ∀ k, row = some k → k = g) : IsIntsX (fun q => q ≠ g) w' v xs := by
 obtain ⟨b, off, cap, h1, h2, h3, h4⟩ := h
 refine ⟨b, off, cap, h1, h2, h3, fun j hj => ?_⟩
 obtain ⟨a, c, d⟩ := h4 j hj
 exact ⟨a, by have := hg.size; omega, (grown_cell hg c (fun e => a (hr _ e))).trans d⟩
def LotX (g : Nat) (w : World) (vi vk vp : Value) (x : Lot) : Prop := IsIntsX (fun q => q ≠ g) w vi x.ins ∧ vk = .bool x.known ∧ IsIntsX (fun q => q ≠ g) w vp x.perm
theorem LotX.keep {g : Nat} {w w' : World} {vi vk vp : Value} {x : Lot} {row : Option Nat} (h : LotX g w vi vk vp x) (hg : w.grownBy w' row) (hr : ∀ k, row = some k → k = g) : LotX g w' vi vk vp x :=
 ⟨h.1.keepX hg hr, h.2.1, h.2.2.keepX hg hr⟩
/-- block g holds the lots ls -/
def LotsX (g : Nat) (w : World) (n cap : Nat) (ls : List Lot) : Prop :=
 ∃ vals : List V3, w.ownsRow 0 64 3 (.slice (some ⟨g, 0, none⟩) n cap) n (flat vals) ∧ vals.length = ls.length ∧ n = ls.length ∧ ls.length ≤ 2513169434900 ∧ ∀ j, j < ls.length → LotX g w (v3At vals j).i (v3At vals j).k (v3At vals j).p (lotAt ls j)
theorem LotsX.lt {g n cap : Nat} {w : World} {ls : List Lot} (h : LotsX g w n cap ls) : g < w.heap.size := by
 obtain ⟨vals, h1, _⟩ := h
 exact (h1.lt g rfl).2
theorem LotsX.keep {g n cap : Nat} {w w' : World} {ls : List Lot} {row : Option Nat} (h : LotsX g w n cap ls) (hg : w.grownBy w' row) (hr : row ≠ some g) (hr2 : row = none) : LotsX g w' n cap ls := by
 subst hr2
 obtain ⟨vals, h1, h2, h3, h4, h5⟩ := h
 exact ⟨vals, h1.kept hg (.inr (by simp [Value.ownBlock])), h2, h3, h4, fun j hj => (h5 j hj).keep hg (by simp)⟩
theorem LotsX.below {g n cap : Nat} {w w' : World} {ls : List Lot} (h : LotsX g w n cap ls) (hb : Below w.heap.size w w') : LotsX g w' n cap ls :=
 h.keep (row := none) ⟨hb.os, hb.tape, hb.output, hb.size, fun k hk _ => hb.block k hk⟩ (by simp) rfl
theorem LotsX.cells3 {g n cap k : Nat} {w : World} {ls : List Lot} (h : LotsX g w n cap ls) (hk : k < ls.length) :
  ∃ vi vk vp, w.cell? ⟨g, k * 3, none⟩ = some vi ∧ w.cell? ⟨g, k * 3 + 1, none⟩ = some vk ∧ w.cell? ⟨g, k * 3 + 2, none⟩ = some vp ∧ LotX g w vi vk vp (lotAt ls k) ∧ ∀ j, w.frozen? ⟨g, j, none⟩ = false := by
 obtain ⟨vals, h1, h2, rfl, h3, h4⟩ := h
 have hf := flat_get vals k (by omega)
 exact ⟨_, _, _, (h1.cellAt (k * 3) (by omega)).trans hf.1, (h1.cellAt (k * 3 + 1) (by omega)).trans hf.2.1, (h1.cellAt (k * 3 + 2) (by omega)).trans hf.2.2, h4 k hk, fun j => h1.frozenAt j⟩
end Go.Proofs.YteiaeaciaglmgaaGreat
