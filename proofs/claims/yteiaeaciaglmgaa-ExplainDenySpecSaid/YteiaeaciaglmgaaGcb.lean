/- Layers B29b E0 E1 E2 E3 E4 E5 E6 Rec RecS EW1 EW3 EA1 EW4 EA2 EA3 EW9 EA4: the walks and the plain laws under the last text, merged and cut to what it uses; nothing is assumed. -/
import Derived.BigRegionIn
import Derived.StillTailTactics
import Derived.Laws.BitsAllLaws
import Derived.Laws.BitsLemmas
import Derived.WalkKit
import Derived.Deep.RegionHeld
import Derived.Test.YteiaeaciaglmgaaProg
import Derived.MapKept
import Derived.RangeFuncRecord
import Derived.Maps.OwnOps
import Derived.Maps.OwnSet
import Derived.Maps.RangeRun
import Derived.Laws.OwnMore
import Derived.Maps.AppendAt
import Derived.Lib.SliceRun
import Derived.OrdersIn
import Derived.RangeFuncLeaves
import Derived.Shelf.Spec.TrailingZeros
import Derived.Deep.CutRange
import Derived.Deep.Slices
import Derived.Test.YteiaeaciaglmgaaGca
set_option linter.unusedVariables false
set_option linter.unusedSimpArgs false
set_option linter.unusedVariables false
set_option linter.unusedSimpArgs false
namespace Go.Proofs.Yteiaeaciaglmgaa
open Go.RowKit
def outsTo (f : Flow) : Nat → List Int
 | 0 => []
 | k + 1 => outsTo f k ++ [beforeI f k]
end Go.Proofs.Yteiaeaciaglmgaa
set_option linter.unusedVariables false
set_option linter.unusedSimpArgs false
namespace Go.Proofs.Yteiaeaciaglmgaa
open Go.RowKit
attribute [local go_sem] Oper.semAt_some
end Go.Proofs.Yteiaeaciaglmgaa
set_option linter.unusedVariables false
set_option linter.unusedSimpArgs false
set_option linter.unusedVariables false
set_option linter.unusedSimpArgs false
namespace Go.Proofs.Yteiaeaciaglmgaa
open Go.RowKit
def iterLeft (w : World) (bm r : Nat) : Nat := match w.heap[bm]?, w.heap[r]? with
 | some (.map es _), some (.mapIter _ _ seen _) => (leftOf es seen).size
 | _, _ => 0
theorem MapIter.left {w : World} {bm r : Nat} {l left : AL} (h : MapIter w bm r l left) : iterLeft w bm r = left.length := by
 obtain ⟨es, c, seen, c0, a, b, d, e, f, g⟩ := h
 unfold iterLeft
 rw [a, b]
 have := congrArg List.length g
 simpa using this
end Go.Proofs.Yteiaeaciaglmgaa
set_option linter.unusedVariables false
set_option linter.unusedSimpArgs false
namespace Go.Proofs.Yteiaeaciaglmgaa
open Go.RowKit
theorem litInts {B b cap : Nat} {w : World} {xs : List Int} {v : Value} (hv : v = .slice (some ⟨b, 0, none⟩) xs.length cap) (hc : xs.length ≤ cap) (hm : cap ≤ 1000) (h64 : ∀ x ∈ xs, I64 x) (hb : b < B)
  (hx : Box w b (xs.map (Value.int .i64 ·)).toArray) : IsInts B w v xs := by
 refine ⟨b, 0, cap, ⟨_, hv, hc, by omega, Or.inl rfl⟩, by omega, h64, fun j hj => ⟨hb, ?_⟩⟩
 rw [hx.2]
 simp [nth_eq_getElem hj, hj]
theorem noInts {B : Nat} {w : World} : IsInts B w (.slice none 0 0) [] :=
 ⟨0, 0, 0, ⟨_, rfl, by simp, by omega, Or.inr rfl⟩, by simp, by simp, fun j hj => by simp at hj⟩
theorem noLots {B : Nat} {w : World} : IsLots B w (.slice none 0 0) [] :=
 ⟨0, 0, 0, ⟨_, rfl, by simp, by omega, Or.inr rfl⟩, by simp, fun j hj => by simp at hj⟩
theorem oneLot {B b : Nat} {w : World} {xs ys : List Int} {kn : Bool} {v u : Value} (hx : Box w b #[v, .bool kn, u]) (hb : b < B) (h1 : IsInts B w v xs) (h2 : IsInts B w u ys) : IsLots B w (.slice (some ⟨b, 0, none⟩) 1 1) [⟨xs, kn, ys⟩] := by
 refine ⟨b, 0, 1, ⟨_, rfl, by simp, by omega, Or.inl rfl⟩, by simp, fun j hj => ?_⟩
 obtain rfl : j = 0 := by simp at hj; omega
 exact ⟨_, _, _, ⟨hb, by rw [hx.2]; rfl⟩, ⟨hb, by rw [hx.2]; rfl⟩, ⟨hb, by rw [hx.2]; rfl⟩, h1, rfl, h2⟩
theorem litMat1 {B b : Nat} {w : World} {xs : List Int} {v : Value} (hx : Box w b #[v]) (hb : b < B) (h1 : IsInts B w v xs) : IsMat B w (.slice (some ⟨b, 0, none⟩) 1 1) [xs] := by
 refine ⟨b, 0, 1, ⟨_, rfl, by simp, by omega, Or.inl rfl⟩, by simp, fun j hj => ?_⟩
 obtain rfl : j = 0 := by simp at hj; omega
 exact ⟨v, ⟨hb, by rw [hx.2]; rfl⟩, h1⟩
end Go.Proofs.Yteiaeaciaglmgaa
set_option linter.unusedVariables false
set_option linter.unusedSimpArgs false
namespace Go.Proofs.Yteiaeaciaglmgaa
theorem spotAt_unborn {f : Flow} {m : Nat} (h : lotsB f m = true) {s : Int} (hs : beforeI f (m - 1) ≤ s) : spotAt f s m = s := by
 refine spotAt_stay (k := 0) (Nat.zero_le _) (fun j _ hj => ?_)
 show hasB (lotAt f.lots j).ins s = false
 cases hh : hasB (lotAt f.lots j).ins s
 ·rfl
 ·have h1 := ins_lt h hj hh
  have h2 := beforeI_mono (f := f) (show j ≤ m - 1 by omega)
  omega
end Go.Proofs.Yteiaeaciaglmgaa
set_option linter.unusedVariables false
set_option linter.unusedSimpArgs false
namespace Go.Proofs.Yteiaeaciaglmgaa
open Go.RowKit
/-- done: the set of the operations that have come up -/
def upd (L : Nat → Bool) (i : Nat) : Nat → Bool := fun j => j == i || L j
def allOn (L : Nat → Bool) : List Nat → Prop
 | [] => True
 | d :: r => L d = true ∧ allOn L r
theorem allOn_mem {L : Nat → Bool} : ∀ {l : List Nat}, (∀ d ∈ l, L d = true) → allOn L l
 | [], _ => trivial
 | d :: r, h => ⟨h d (by simp), allOn_mem fun e he => h e (by simp [he])⟩
/-- the operations that must come ahead of an operation -/
def depsOf (o : Oper) : List Nat := (o.after.toList.filter (Region.binds .any)).map (·.on)
/-- all edges point to an earlier operation -/
def backB : Nat → List Oper → Bool
 | _, [] => true
 | k, o :: r => (depsOf o).all (fun d => decide (d < k)) && backB (k + 1) r
theorem backB_at : ∀ {l : List Oper} {k : Nat}, backB k l = true → ∀ {i : Nat} {o : Oper}, l[i]? = some o → ∀ d ∈ depsOf o, d < k + i
 | [], _, _, i, o, ho, _, _ => by simp at ho
 | o' :: r, k, h, 0, o, ho, d, hd => by
  simp only [backB, Bool.and_eq_true, List.all_eq_true, decide_eq_true_eq] at h
  simp at ho
  subst ho
  simpa using h.1 d hd
 | o' :: r, k, h, i + 1, o, ho, d, hd => by
  simp only [backB, Bool.and_eq_true] at h
  have := backB_at h.2 (i := i) (o := o) (by simpa using ho) d hd
  omega
section
variable {P : Program} {ops : Array Oper} {Q : Exit → Act → World → Prop}
def InvStep (P : Program) (ops : Array Oper) (Q : Exit → Act → World → Prop) (I : (Nat → Bool) → Act → World → Prop) (i : Nat) (o : Oper) : Prop :=
 ∀ (L : Nat → Bool) (a : Act) (w : World), L i = false → allOn L (depsOf o) → I L a w →
  ∀ K : Act → World → Prop, Shut (∀ a' w', I (upd L i) a' w' → K a' w') → if Region.wanted o (yielded ops a.tmps) = true then Oper.wp P o a w K Q else K (a.put o.dst undef) w
def InvSteps (P : Program) (ops : Array Oper) (Q : Exit → Act → World → Prop) (I : (Nat → Bool) → Act → World → Prop) : Nat → List Oper → Prop
 | _, [] => True
 | k, o :: r => InvStep P ops Q I k o ∧ InvSteps P ops Q I (k + 1) r
theorem InvSteps.at {I : (Nat → Bool) → Act → World → Prop} : ∀ {l : List Oper} {k : Nat}, InvSteps P ops Q I k l → ∀ {i : Nat} {o : Oper}, l[i]? = some o → InvStep P ops Q I (k + i) o
 | [], _, _, i, o, ho => by simp at ho
 | o' :: r, k, h, 0, o, ho => by
  simp at ho
  subst ho
  exact h.1
 | o' :: r, k, h, i + 1, o, ho => by
  have := InvSteps.at h.2 (i := i) (o := o) (by simpa using ho)
  rw [show k + (i + 1) = k + 1 + i by omega]
  exact this
theorem upd_listed {listed : Array Bool} {i : Nat} (hi : i < listed.size) : (fun j => (listed.setIfInBounds i true).getD j false) = upd (fun j => listed.getD j false) i := by
 funext j
 unfold upd
 by_cases h : j = i
 ·subst h
  simp [Array.getD_eq_getD_getElem?, hi]
 ·have h' : ¬ i = j := fun e => h e.symm
  simp [Array.getD_eq_getD_getElem?, Array.getElem?_setIfInBounds_ne h', h]
/-- how many are not yet done -/
def leftN (L : Nat → Bool) : Nat → Nat
 | 0 => 0
 | n + 1 => leftN L n + (if L n = true then 0 else 1)
theorem leftN_upd_ge {L : Nat → Bool} {i : Nat} : ∀ n, n ≤ i → leftN (upd L i) n = leftN L n
 | 0, _ => rfl
 | n + 1, h => by
  have hn : (n == i) = false := by simp; omega
  have ih := leftN_upd_ge (L := L) (i := i) n (by omega)
  simp [leftN, ih]
  simp [upd, hn]
theorem leftN_upd {L : Nat → Bool} {i : Nat} (hi : L i = false) : ∀ n, i < n → leftN (upd L i) n + 1 = leftN L n
 | 0, h => by omega
 | n + 1, h => by
  rcases Nat.lt_or_ge i n with h1 | h1
  ·have hn : (n == i) = false := by simp; omega
   have ih := leftN_upd hi n h1
   simp [leftN, upd, hn] at *
   omega
  ·obtain rfl : i = n := by omega
   simp [leftN, leftN_upd_ge i (Nat.le_refl _), upd, hi]
theorem leftN_zero {L : Nat → Bool} : ∀ n, leftN L n = 0 → ∀ i, i < n → L i = true
 | 0, _, i, h => by omega
 | n + 1, h, i, hi => by
  simp only [leftN] at h
  rcases Nat.lt_or_ge i n with h1 | h1
  ·exact leftN_zero n (by omega) i h1
  ·obtain rfl : i = n := by omega
   by_cases hh : L i = true
   ·exact hh
   ·simp [hh] at h
theorem wpAny_inv {l : List Oper} (hb : backB 0 l = true) {I : (Nat → Bool) → Act → World → Prop} (hs : InvSteps P l.toArray Q I 0 l)
  (he : ∀ (L : Nat → Bool) a w, (∀ i, i < l.length → L i = true) → I L a w → Q .normal a w) :
  ∀ (fuel : Nat) (listed : Array Bool) (a : Act) (w : World), listed.size = l.length → leftN (fun j => listed.getD j false) l.length ≤ fuel → I (fun j => listed.getD j false) a w →
   wpAny P .any l.toArray Q fuel listed a w := by
 have hfull : ∀ (listed : Array Bool), listed.size = l.length → Region.ready .any l.toArray listed = [] → ∀ n, n ≤ l.length → ∀ i, i < n → listed.getD i false = true := by
  intro listed hz hr n
  induction n with
  | zero => intro _ i hi; omega
  | succ n ih =>
   intro hn i hi
   rcases Nat.lt_or_ge i n with h1 | h1
   ·exact ih (by omega) i h1
   ·obtain rfl : i = n := by omega
    by_cases hh : listed.getD i false = true
    ·exact hh
    ·exfalso
     have hmem : i ∈ Region.ready .any l.toArray listed := by
      unfold Region.ready
      refine List.mem_filter.2 ⟨by simp; omega, ?_⟩
      have e1 : listed.getD i true = false := by
       have : i < listed.size := by omega
       simp [Array.getD_eq_getD_getElem?, this] at hh ⊢
       exact hh
      have hlt : i < l.length := by omega
      have e2 : l.toArray[i]? = some l[i] := by simp
      rw [e1, e2]
      simp only [Bool.not_false, Bool.true_and, Option.map_some, Option.getD_some]
      rw [Array.all_eq_true_iff_forall_mem]
      intro e hme
      by_cases hbd : Region.binds .any e = true
      ·have : e.on ∈ depsOf l[i] := List.mem_map.2 ⟨e, List.mem_filter.2 ⟨by simpa using hme, hbd⟩, rfl⟩
       have h2 := backB_at hb (i := i) (o := l[i]) (by simp) _ this
       simp [ih (by omega) e.on (by omega)]
      ·simp [hbd]
     rw [hr] at hmem
     cases hmem
 intro fuel
 induction fuel with
 | zero =>
  intro listed a w hz hl hI
  have hall := leftN_zero _ (Nat.le_zero.1 hl)
  refine ⟨?_, he _ a w hall hI⟩
  refine List.eq_nil_iff_forall_not_mem.2 fun i hi => ?_
  unfold Region.ready at hi
  obtain ⟨h1, h2⟩ := List.mem_filter.1 hi
  have hlt : i < l.length := by simpa using h1
  have h3 := hall i hlt
  have : i < listed.size := by omega
  simp [Array.getD_eq_getD_getElem?, this] at h3 h2
  rw [h3] at h2
  exact absurd h2.1 (by simp)
 | succ fuel ih =>
  intro listed a w hz hl hI
  refine ⟨fun hr => he _ a w (hfull listed hz hr l.length (Nat.le_refl _)) hI, fun i hi => ?_⟩
  have hi' := hi
  unfold Region.ready at hi'
  obtain ⟨h1, h2⟩ := List.mem_filter.1 hi'
  have hlt : i < l.length := by simpa using h1
  have hlz : i < listed.size := by omega
  have e2 : l.toArray[i]? = some l[i] := by simp
  rw [e2] at h2
  simp only [Option.map_some, Option.getD_some, Bool.and_eq_true] at h2
  have hL : listed.getD i false = false := by
   have := h2.1
   simp [Array.getD_eq_getD_getElem?, hlz] at this ⊢
   exact this
  have hdeps : allOn (fun j => listed.getD j false) (depsOf l[i]) := allOn_mem fun d hd => by
   obtain ⟨e, he1, rfl⟩ := List.mem_map.1 hd
   obtain ⟨he2, he3⟩ := List.mem_filter.1 he1
   have := (Array.all_eq_true_iff_forall_mem.1 h2.2) e (by simpa using he2)
   simpa [he3] using this
  have hstep := InvSteps.at hs (i := i) (o := l[i]) (by simp)
  rw [Nat.zero_add] at hstep
  refine wpOp_step e2 fun K' hK => ?_
  refine hstep _ a w hL hdeps hI K' ?_
  intro a' w' hI'
  refine hK a' w' (ih _ a' w' (by simp [hz]) ?_ ?_)
  ·rw [upd_listed hlz]
   have := leftN_upd (L := fun j => listed.getD j false) hL l.length hlt
   omega
  ·rw [upd_listed hlz]; exact hI'
/-- a region whose order is drawn, by an invariant -/
theorem wp_region_inv {id : Nat} {l : List Oper} {a : Act} {w : World} (I : Act → (Nat → Bool) → Act → World → Prop) (hm : P.follows .mixedOrders = true) (hb : backB 0 l = true)
  (h0 : I a (fun _ => false) a w.drew) (hs : InvSteps P l.toArray Q (I a) 0 l) (he : ∀ (L : Nat → Bool) a' w', (∀ i, i < l.length → L i = true) → I a L a' w' → Q .normal a' w') : (Code.region id l.toArray true).wp P Q a w := by
 refine wp_region_any hm ?_
 have hfun : (fun j => (Array.replicate l.toArray.size false).getD j false) = fun _ => false := by
  funext j
  simp [Array.getD_eq_getD_getElem?, Array.getElem?_replicate]
  by_cases h : j < l.length <;> simp [h]
 have hle : ∀ n, leftN (fun _ => false) n ≤ n := by
  intro n
  induction n with
  | zero => simp [leftN]
  | succ n ih => simp [leftN]; exact ih
 refine wpAny_inv hb hs he _ _ _ _ (by simp) ?_ ?_
 ·rw [hfun]; simpa using hle l.length
 ·rw [hfun]; exact h0
end
end Go.Proofs.Yteiaeaciaglmgaa
set_option linter.unusedVariables false
set_option linter.unusedSimpArgs false
namespace Go.Proofs.Yteiaeaciaglmgaa
open Go.RowKit
theorem OwnLots.allocX {C : Nat} {w : World} {v : Value} {ls : List Lot} (h : OwnLots C w v ls) (hC : C ≤ w.heap.size) (o : Obj) : OwnLots C (w.alloc o) v ls := h.below (box_below' w o) hC
end Go.Proofs.Yteiaeaciaglmgaa
set_option linter.unusedVariables false
set_option linter.unusedSimpArgs false
set_option linter.unusedVariables false
set_option linter.unusedSimpArgs false
namespace Go.Proofs.Yteiaeaciaglmgaa
def ltL : List Int → List Int → Bool
 | a :: r, b :: s => if a = b then ltL r s else decide (a < b)
 | _, _ => false
theorem ltL_irrefl : ∀ a : List Int, ltL a a = false
 | [] => rfl
 | a :: r => by simp only [ltL, if_true]; exact ltL_irrefl r
theorem ltL_trans : ∀ {a b c : List Int}, ltL a b = true → ltL b c = true → ltL a c = true
 | a :: r, b :: s, c :: t, h1, h2 => by
  simp only [ltL] at h1 h2 ⊢
  by_cases hab : a = b
  ·subst hab
   rw [if_pos rfl] at h1
   by_cases hac : a = c
   ·subst hac
    rw [if_pos rfl] at h2 ⊢
    exact ltL_trans h1 h2
   ·rw [if_neg hac] at h2 ⊢
    exact h2
  ·rw [if_neg hab] at h1
   by_cases hbc : b = c
   ·subst hbc
    rw [if_neg hab]
    exact h1
   ·rw [if_neg hbc] at h2
    have e1 := of_decide_eq_true h1
    have e2 := of_decide_eq_true h2
    rw [if_neg (by omega)]
    exact decide_eq_true (by omega)
 | [], b, c, h1, h2 => by cases b <;> cases h1
 | a :: r, [], c, h1, h2 => by cases h1
 | a :: r, b :: s, [], h1, h2 => by cases h2
theorem ltL_total : ∀ {a b : List Int}, a.length = b.length → a ≠ b → ltL a b = true ∨ ltL b a = true
 | [], [], _, h => absurd rfl h
 | [], b :: s, h, _ => by simp at h
 | a :: r, [], h, _ => by simp at h
 | a :: r, b :: s, h, hne => by
  simp only [ltL]
  by_cases hab : a = b
  ·subst hab
   rw [if_pos rfl, if_pos rfl]
   exact ltL_total (by simpa using h) (fun e => hne (by rw [e]))
  ·rw [if_neg hab, if_neg (fun e => hab e.symm)]
   rcases Int.lt_or_gt_of_ne hab with h1 | h1
   ·exact .inl (decide_eq_true h1)
   ·exact .inr (decide_eq_true h1)
theorem ltL_asymm {a b : List Int} (h : ltL a b = true) : ltL b a = false := by
 cases e : ltL b a with
 | false => rfl
 | true => have := ltL_trans h e; rw [ltL_irrefl] at this; cases this
def SrtL (l : List (List Int)) : Prop := l.Pairwise fun a b => ltL a b = true
/-- a list added, unless it is there -/
def putL (x : List Int) : List (List Int) → List (List Int)
 | [] => [x]
 | a :: l => if x = a then a :: l else if ltL x a then x :: a :: l else a :: putL x l
theorem mem_putL {x y : List Int} : ∀ {l : List (List Int)}, y ∈ putL x l ↔ y = x ∨ y ∈ l
 | [] => by simp [putL]
 | a :: l => by
  unfold putL
  by_cases h1 : x = a
  ·subst h1; simp
  ·rw [if_neg h1]
   by_cases h2 : ltL x a = true
   ·rw [if_pos h2]; simp
   ·rw [if_neg h2]
    simp only [List.mem_cons, mem_putL (l := l)]
    constructor
    ·rintro (h | h | h)
     ·exact .inr (.inl h)
     ·exact .inl h
     ·exact .inr (.inr h)
    ·rintro (h | h | h)
     ·exact .inr (.inl h)
     ·exact .inl h
     ·exact .inr (.inr h)
theorem srt_putL {x : List Int} : ∀ {l : List (List Int)}, SrtL l → (∀ a ∈ l, a.length = x.length) → SrtL (putL x l)
 | [], _, _ => by simp [putL, SrtL]
 | a :: l, h, hlen => by
  have h' := List.pairwise_cons.1 h
  unfold putL
  by_cases h1 : x = a
  ·rw [if_pos h1]; exact h
  ·rw [if_neg h1]
   by_cases h2 : ltL x a = true
   ·rw [if_pos h2]
    refine List.pairwise_cons.2 ⟨fun b hb => ?_, h⟩
    rcases List.mem_cons.1 hb with rfl | hb
    ·exact h2
    ·exact ltL_trans h2 (h'.1 b hb)
   ·rw [if_neg h2]
    refine List.pairwise_cons.2 ⟨fun b hb => ?_, srt_putL h'.2 (fun c hc => hlen c (List.mem_cons_of_mem _ hc))⟩
    rcases mem_putL.1 hb with rfl | hb
    ·rcases ltL_total (hlen a (by simp)) (fun e => h1 e.symm) with h3 | h3
     ·exact h3
     ·exact absurd h3 h2
    ·exact h'.1 b hb
def putAll (l : List (List Int)) (xs : List (List Int)) : List (List Int) := xs.foldl (fun l x => putL x l) l
theorem mem_putAll {y : List Int} : ∀ {xs l : List (List Int)}, y ∈ putAll l xs ↔ y ∈ xs ∨ y ∈ l
 | [], l => by simp [putAll]
 | x :: xs, l => by
  have := mem_putAll (y := y) (xs := xs) (l := putL x l)
  unfold putAll at this ⊢
  rw [List.foldl_cons, this, mem_putL, List.mem_cons]
  constructor
  ·rintro (h | h | h)
   ·exact .inl (.inr h)
   ·exact .inl (.inl h)
   ·exact .inr h
  ·rintro ((h | h) | h)
   ·exact .inr (.inl h)
   ·exact .inl h
   ·exact .inr (.inr h)
theorem srt_putAll {n : Nat} : ∀ {xs l : List (List Int)}, SrtL l → (∀ a ∈ l, a.length = n) → (∀ x ∈ xs, x.length = n) → SrtL (putAll l xs)
 | [], l, h, _, _ => h
 | x :: xs, l, h, hl, hx => by
  unfold putAll
  rw [List.foldl_cons]
  refine srt_putAll (srt_putL h (fun a ha => by rw [hl a ha, hx x (by simp)])) (fun a ha => ?_) (fun y hy => hx y (List.mem_cons_of_mem _ hy))
  rcases mem_putL.1 ha with rfl | ha
  ·exact hx _ (by simp)
  ·exact hl a ha
/-- the permutations of the numbers below n that begin with some, in order -/
def permsF (n : Nat) : Nat → List Int → List (List Int)
 | 0, b => [b]
 | f + 1, b => (List.range n).flatMap fun (x : Nat) => if hasB b (x : Int) then [] else permsF n f (b ++ [(x : Int)])
def permsL (n : Nat) : List (List Int) := permsF n n []
def Begins (n : Nat) (b : List Int) : Prop := b.Nodup ∧ ∀ x ∈ b, 0 ≤ x ∧ x < (n : Int)
theorem mem_permsF {n : Nat} {π : List Int} : ∀ (f : Nat) (b : List Int), Begins n b → (π ∈ permsF n f b ↔ ∃ r, π = b ++ r ∧ r.length = f ∧ Begins n π)
 | 0, b, hb => by
  simp only [permsF, List.mem_singleton]
  constructor
  ·rintro rfl; exact ⟨[], by simp, rfl, hb⟩
  ·rintro ⟨r, rfl, h, _⟩
   rw [List.length_eq_zero_iff.1 h]; simp
 | f + 1, b, hb => by
  simp only [permsF, List.mem_flatMap, List.mem_range]
  constructor
  ·rintro ⟨x, hx, hm⟩
   by_cases h : hasB b (x : Int) = true
   ·rw [if_pos h] at hm; cases hm
   ·rw [if_neg h] at hm
    have hnb : (x : Int) ∉ b := by unfold hasB at h; simpa using h
    have hb' : Begins n (b ++ [(x : Int)]) := by
     refine ⟨List.nodup_append.2 ⟨hb.1, by simp, fun y hy z hz e => ?_⟩, fun y hy => ?_⟩
     ·obtain rfl := List.mem_singleton.1 hz
      subst e
      exact hnb hy
     ·rcases List.mem_append.1 hy with hy | hy
      ·exact hb.2 y hy
      ·obtain rfl := List.mem_singleton.1 hy; omega
    obtain ⟨r, h1, h2, h3⟩ := (mem_permsF f _ hb').1 hm
    exact ⟨(x : Int) :: r, by rw [h1]; simp, by simp [h2], h3⟩
  ·rintro ⟨r, rfl, hr, hp⟩
   cases r with
   | nil => simp at hr
   | cons y r =>
    have hy := hp.2 y (by simp)
    have hyb : y ∉ b := by
     intro hm
     have := (List.nodup_append.1 hp.1).2.2 y hm y (by simp)
     exact this rfl
    have hyx : ((y.toNat : Nat) : Int) = y := Int.toNat_of_nonneg hy.1
    refine ⟨y.toNat, by omega, ?_⟩
    rw [hyx, if_neg (by unfold hasB; simpa using hyb)]
    have hb' : Begins n (b ++ [y]) := by
     have e : b ++ y :: r = (b ++ [y]) ++ r := by simp
     rw [e] at hp
     exact ⟨(List.nodup_append.1 hp.1).1, fun z hz => hp.2 z (List.mem_append_left _ hz)⟩
    exact (mem_permsF f _ hb').2 ⟨r, by simp, by simpa using hr, hp⟩
theorem mem_permsL {n : Nat} {π : List Int} : π ∈ permsL n ↔ permB π (n : Int) = true := by
 unfold permsL
 rw [mem_permsF n [] ⟨List.nodup_nil, fun x h => by cases h⟩]
 unfold permB inB diffB
 simp only [List.nil_append, Bool.and_eq_true, decide_eq_true_eq, List.all_eq_true]
 constructor
 ·rintro ⟨r, rfl, h1, h2, h3⟩
  exact ⟨fun x hx => h3 x hx, by omega, h2⟩
 ·rintro ⟨h1, h2, h3⟩
  exact ⟨π, rfl, by omega, h3, fun x hx => h1 x hx⟩
end Go.Proofs.Yteiaeaciaglmgaa
set_option linter.unusedVariables false
set_option linter.unusedSimpArgs false
namespace Go.Proofs.Yteiaeaciaglmgaa
/-- where a letter is behind a lot -/
def mvI (ins π : List Int) (n : Int) (x : Int) : Int := if hasB ins x then n + nth π (ins.idxOf x) else x
def moveL (ins π : List Int) (n : Int) (p : List Int) : List Int := p.map (mvI ins π n)
def permsOf (x : Lot) : List (List Int) := if x.known then [x.perm] else permsL x.ins.length
def outsL (f : Flow) (k : Nat) (p : List Int) : List (List Int) := (permsOf (lotAt f.lots k)).map fun π => moveL (lotAt f.lots k).ins π (beforeI f k) p
def beginL (f : Flow) : List Int := (List.range f.senders.toNat).map Int.ofNat
/-- the assignments behind the first k lots -/
def asgTo (f : Flow) : Nat → List (List Int)
 | 0 => [beginL f]
 | k + 1 => putAll [] ((asgTo f k).flatMap (outsL f k))
theorem mem_asgTo {f : Flow} {k : Nat} {q : List Int} : q ∈ asgTo f (k + 1) ↔ ∃ p ∈ asgTo f k, ∃ π ∈ permsOf (lotAt f.lots k), q = moveL (lotAt f.lots k).ins π (beforeI f k) p := by
 show q ∈ putAll [] ((asgTo f k).flatMap (outsL f k)) ↔ _
 rw [mem_putAll]
 simp only [List.mem_flatMap, outsL, List.mem_map, List.not_mem_nil, or_false]
 constructor
 ·rintro ⟨p, hp, π, hπ, rfl⟩; exact ⟨p, hp, π, hπ, rfl⟩
 ·rintro ⟨p, hp, π, hπ, rfl⟩; exact ⟨p, hp, π, hπ, rfl⟩
theorem asg_len {f : Flow} : ∀ k, ∀ p ∈ asgTo f k, p.length = f.senders.toNat
 | 0, p, hp => by
  obtain rfl : p = beginL f := List.mem_singleton.1 hp
  simp [beginL]
 | k + 1, p, hp => by
  obtain ⟨q, hq, π, _, rfl⟩ := mem_asgTo.1 hp
  unfold moveL
  rw [List.length_map]
  exact asg_len k q hq
theorem asg_srt {f : Flow} : ∀ k, SrtL (asgTo f k)
 | 0 => by unfold asgTo SrtL; simp
 | k + 1 => by
  show SrtL (putAll [] ((asgTo f k).flatMap (outsL f k)))
  refine srt_putAll (n := f.senders.toNat) (by simp [SrtL]) (fun a ha => by cases ha) (fun q hq => ?_)
  refine asg_len (f := f) (k + 1) q ?_
  show q ∈ putAll [] ((asgTo f k).flatMap (outsL f k))
  rw [mem_putAll]
  exact .inl hq
/-- the letters are at the spots that are free behind the first k lots -/
def AllAt (f : Flow) (k : Nat) (p : List Int) : Prop := p.Nodup ∧ ∀ x, x ∈ p ↔ (0 ≤ x ∧ x < beforeI f k ∧ goneB f x k = false)
theorem lotB_parts {f : Flow} {k : Nat} (h : lotB f k = true) : (lotAt f.lots k).ins ≠ [] ∧ (lotAt f.lots k).ins.Nodup ∧ (∀ x ∈ (lotAt f.lots k).ins, 0 ≤ x ∧ x < beforeI f k ∧ goneB f x k = false) ∧
  ((lotAt f.lots k).known = true → permB (lotAt f.lots k).perm (lotAt f.lots k).ins.length = true) ∧ ((lotAt f.lots k).known = false → (lotAt f.lots k).perm = []) := by
 unfold lotB at h
 simp only [Bool.and_eq_true, decide_eq_true_eq, List.all_eq_true, Bool.not_eq_true'] at h
 obtain ⟨⟨⟨h1, h2⟩, h3⟩, h4⟩ := h
 unfold diffB at h2
 refine ⟨h1, of_decide_eq_true h2, fun x hx => ?_, fun hk => ?_, fun hk => ?_⟩
 ·have := h3 x hx
  exact ⟨this.1.1, this.1.2, this.2⟩
 ·rw [hk] at h4; simpa using h4
 ·rw [hk] at h4; simpa using h4
theorem permB_parts {π : List Int} {n : Nat} (h : permB π (n : Int) = true) : (∀ x ∈ π, 0 ≤ x ∧ x < (n : Int)) ∧ π.length = n ∧ π.Nodup := by
 unfold permB inB diffB at h
 simp only [Bool.and_eq_true, decide_eq_true_eq, List.all_eq_true] at h
 exact ⟨h.1, by omega, h.2.2⟩
theorem permsOf_perm {f : Flow} {k : Nat} (h : lotB f k = true) {π : List Int} (hπ : π ∈ permsOf (lotAt f.lots k)) : permB π (lotAt f.lots k).ins.length = true := by
 unfold permsOf at hπ
 obtain ⟨_, _, _, h4, _⟩ := lotB_parts h
 cases hk : (lotAt f.lots k).known with
 | true =>
  rw [hk] at hπ
  obtain rfl := List.mem_singleton.1 hπ
  exact h4 hk
 | false =>
  rw [hk] at hπ
  exact mem_permsL.1 hπ
theorem nodup_len : ∀ {l m : List Int}, l.Nodup → (∀ x ∈ l, x ∈ m) → l.length ≤ m.length
 | [], m, _, _ => by simp
 | a :: l, m, hn, hs => by
  have h' := List.nodup_cons.1 hn
  have ih := nodup_len (l := l) (m := m.erase a) h'.2 (fun x hx => (List.mem_erase_of_ne (fun e => h'.1 (by rw [← e]; exact hx))).2 (hs x (List.mem_cons_of_mem _ hx)))
  have hm := hs a (List.mem_cons_self ..)
  have := List.length_erase_of_mem hm
  have := List.length_pos_of_mem hm
  simp only [List.length_cons]
  omega
/-- a list of n different numbers below n has all of them -/
theorem full_of {π : List Int} {n : Nat} (h : permB π (n : Int) = true) {j : Nat} (hj : j < n) : (j : Int) ∈ π := by
 obtain ⟨h1, h2, h3⟩ := permB_parts h
 have hsub : π ⊆ (List.range n).map Int.ofNat := by
  intro x hx
  have := h1 x hx
  exact List.mem_map.2 ⟨x.toNat, List.mem_range.2 (by omega), Int.toNat_of_nonneg this.1⟩
 refine Classical.byContradiction fun hn => ?_
 have hsub2 : (j : Int) :: π ⊆ (List.range n).map Int.ofNat := by
  intro x hx
  rcases List.mem_cons.1 hx with rfl | hx
  ·exact List.mem_map.2 ⟨j, List.mem_range.2 hj, rfl⟩
  ·exact hsub hx
 have hnd : ((j : Int) :: π).Nodup := List.nodup_cons.2 ⟨hn, h3⟩
 have := nodup_len hnd (fun x hx => hsub2 hx)
 simp at this
 omega
theorem nth_mem' {l : List Int} {i : Nat} (h : i < l.length) : nth l i ∈ l := by
 unfold nth
 rw [List.getD_eq_getElem?_getD, List.getElem?_eq_getElem h]
 exact List.getElem_mem h
theorem hasB_mem {l : List Int} {x : Int} : hasB l x = true ↔ x ∈ l := by unfold hasB; simp
/-- a letter that goes into a lot comes out at one of its places -/
theorem mv_in {ins π : List Int} {n x : Int} (hp : permB π (ins.length : Int) = true) (hx : x ∈ ins) : ∃ j : Int, j ∈ π ∧ mvI ins π n x = n + j ∧ 0 ≤ j ∧ j < ins.length ∧ j = nth π (ins.idxOf x) := by
 obtain ⟨h1, h2, h3⟩ := permB_parts hp
 have hi : ins.idxOf x < ins.length := List.idxOf_lt_length_of_mem hx
 have hm := nth_mem' (l := π) (i := ins.idxOf x) (by omega)
 exact ⟨nth π (ins.idxOf x), hm, by unfold mvI; rw [if_pos (hasB_mem.2 hx)], (h1 _ hm).1, (h1 _ hm).2, rfl⟩
theorem mv_out {ins π : List Int} {n x : Int} (hx : x ∉ ins) : mvI ins π n x = x := by
 unfold mvI
 rw [if_neg (fun h => hx (hasB_mem.1 h))]
theorem nth_injC {l : List Int} (hn : l.Nodup) {i j : Nat} (hi : i < l.length) (hj : j < l.length) (h : nth l i = nth l j) : i = j := by
 rw [nth_lt hi, nth_lt hj] at h
 have hp := List.pairwise_iff_getElem.1 hn
 rcases Nat.lt_trichotomy i j with hlt | heq | hgt
 ·exact absurd h (hp i j hi hj hlt)
 ·exact heq
 ·exact absurd h.symm (hp j i hj hi hgt)
theorem idx_inj {l : List Int} {x y : Int} (hx : x ∈ l) (hy : y ∈ l) (h : l.idxOf x = l.idxOf y) : x = y := by
 have e1 := List.getElem_idxOf (List.idxOf_lt_length_of_mem hx)
 have e2 := List.getElem_idxOf (List.idxOf_lt_length_of_mem hy)
 rw [← e1, ← e2]
 simp only [h]
/-- moving is one to one on the spots before a lot -/
theorem mv_inj {ins π : List Int} {n x y : Int} (hp : permB π (ins.length : Int) = true) (hx : x < n) (hy : y < n) (h : mvI ins π n x = mvI ins π n y) : x = y := by
 by_cases h1 : x ∈ ins
 ·obtain ⟨j, _, e1, e2, e3, e4⟩ := mv_in (n := n) hp h1
  by_cases h2 : y ∈ ins
  ·obtain ⟨j', _, f1, f2, f3, f4⟩ := mv_in (n := n) hp h2
   rw [e1, f1] at h
   have hj : j = j' := by omega
   rw [e4, f4] at hj
   obtain ⟨_, p2, p3⟩ := permB_parts hp
   exact idx_inj h1 h2 (nth_injC p3 (by rw [p2]; exact List.idxOf_lt_length_of_mem h1) (by rw [p2]; exact List.idxOf_lt_length_of_mem h2) hj)
  ·rw [e1, mv_out h2] at h; omega
 ·rw [mv_out h1] at h
  by_cases h2 : y ∈ ins
  ·obtain ⟨j', _, f1, f2, f3, f4⟩ := mv_in (n := n) hp h2
   rw [f1] at h; omega
  ·rw [mv_out h2] at h; exact h
theorem goneB_lt {f : Flow} {m : Nat} (hl : lotsB f m = true) {x : Int} : goneB f x m = true → x < beforeI f m := by
 induction m with
 | zero => intro h; cases h
 | succ m ih =>
  intro h
  have hl' : lotsB f m = true := by simp only [lotsB, Bool.and_eq_true] at hl; exact hl.1
  have hlot := lotsB_lot hl (show m < m + 1 by omega)
  simp only [goneB, Bool.or_eq_true] at h
  simp only [beforeI]
  rcases h with h | h
  ·have := ih hl' h; omega
  ·have := ((lotB_parts hlot).2.2.1 x (hasB_mem.1 h)).2.1; omega
theorem all_step {f : Flow} {k : Nat} (hl : lotsB f (k + 1) = true) (h0 : 0 ≤ beforeI f k) {p π : List Int} (h : AllAt f k p) (hπ : permB π (lotAt f.lots k).ins.length = true) :
  AllAt f (k + 1) (moveL (lotAt f.lots k).ins π (beforeI f k) p) := by
 have hl' : lotsB f k = true := by simp only [lotsB, Bool.and_eq_true] at hl; exact hl.1
 obtain ⟨hi1, hi2, hi3, _⟩ := lotB_parts (lotsB_lot hl (show k < k + 1 by omega))
 obtain ⟨hn, hm⟩ := h
 obtain ⟨p1, p2, p3⟩ := permB_parts hπ
 refine ⟨?_, fun x => ?_⟩
 ·unfold moveL
  refine List.pairwise_map.2 (hn.imp_of_mem fun {a b} ha hb hne e => hne ?_)
  exact mv_inj hπ ((hm a).1 ha).2.1 ((hm b).1 hb).2.1 e
 ·unfold moveL
  simp only [List.mem_map, beforeI, goneB, Bool.or_eq_false_iff]
  constructor
  ·rintro ⟨y, hy, rfl⟩
   obtain ⟨y1, y2, y3⟩ := (hm y).1 hy
   by_cases hyi : y ∈ (lotAt f.lots k).ins
   ·obtain ⟨j, _, e1, e2, e3, _⟩ := mv_in (n := beforeI f k) hπ hyi
    rw [e1]
    refine ⟨by omega, by omega, ?_, ?_⟩
    ·cases hg : goneB f (beforeI f k + j) k with
     | false => rfl
     | true => have := goneB_lt hl' hg; omega
    ·cases hg : hasB (lotAt f.lots k).ins (beforeI f k + j) with
     | false => rfl
     | true => have := (hi3 _ (hasB_mem.1 hg)).2.1; omega
   ·rw [mv_out hyi]
    refine ⟨y1, by omega, y3, ?_⟩
    cases hg : hasB (lotAt f.lots k).ins y with
    | false => rfl
    | true => exact absurd (hasB_mem.1 hg) hyi
  ·rintro ⟨x1, x2, x3, x4⟩
   by_cases hx : x < beforeI f k
   ·refine ⟨x, (hm x).2 ⟨x1, hx, x3⟩, mv_out (fun hmem => ?_)⟩
    rw [hasB_mem.2 hmem] at x4
    cases x4
   ·have hj : (x - beforeI f k).toNat < (lotAt f.lots k).ins.length := by omega
    have hmem := full_of hπ hj
    have hjx : (((x - beforeI f k).toNat : Nat) : Int) = x - beforeI f k := Int.toNat_of_nonneg (by omega)
    rw [hjx] at hmem
    have hi : π.idxOf (x - beforeI f k) < (lotAt f.lots k).ins.length := by rw [← p2]; exact List.idxOf_lt_length_of_mem hmem
    refine ⟨nth (lotAt f.lots k).ins (π.idxOf (x - beforeI f k)), (hm _).2 (hi3 _ (nth_mem' hi)), ?_⟩
    have hmy := nth_mem' hi
    unfold mvI
    rw [if_pos (hasB_mem.2 hmy)]
    have hidx : (lotAt f.lots k).ins.idxOf (nth (lotAt f.lots k).ins (π.idxOf (x - beforeI f k))) = π.idxOf (x - beforeI f k) := by
     rw [nth_lt hi]
     exact hi2.idxOf_getElem _ hi
    rw [hidx, nth_lt (by rw [p2]; exact hi), List.getElem_idxOf]
    omega
theorem asg_all {f : Flow} (h0 : 0 ≤ f.senders) : ∀ k, lotsB f k = true → ∀ p ∈ asgTo f k, AllAt f k p
 | 0, _, p, hp => by
  obtain rfl : p = beginL f := List.mem_singleton.1 hp
  refine ⟨?_, fun x => ?_⟩
  ·unfold beginL
   exact List.pairwise_map.2 (List.nodup_range.imp fun {a b} hne e => hne (by have e' : (a : Int) = (b : Int) := e; omega))
  ·unfold beginL
   simp only [List.mem_map, List.mem_range, beforeI, goneB, and_true]
   constructor
   ·rintro ⟨a, ha, rfl⟩; simp; omega
   ·rintro ⟨a, b⟩; exact ⟨x.toNat, by omega, by simp; omega⟩
 | k + 1, hl, p, hp => by
  have hl' : lotsB f k = true := by simp only [lotsB, Bool.and_eq_true] at hl; exact hl.1
  obtain ⟨q, hq, π, hπ, rfl⟩ := mem_asgTo.1 hp
  have hb : 0 ≤ beforeI f k := by
   have : ∀ j, 0 ≤ beforeI f j := fun j => by
    induction j with
    | zero => exact h0
    | succ j ih => simp only [beforeI]; omega
   exact this k
  exact all_step hl hb (asg_all h0 k hl' q hq) (permsOf_perm (lotsB_lot hl (show k < k + 1 by omega)) hπ)
end Go.Proofs.Yteiaeaciaglmgaa
set_option linter.unusedVariables false
set_option linter.unusedSimpArgs false
namespace Go.Proofs.Yteiaeaciaglmgaa
theorem asg_ne {f : Flow} (h0 : 0 ≤ f.senders) : ∀ k, lotsB f k = true → asgTo f k ≠ []
 | 0, _ => by simp [asgTo]
 | k + 1, hl => by
  have hl' : lotsB f k = true := by simp only [lotsB, Bool.and_eq_true] at hl; exact hl.1
  obtain ⟨p, hp⟩ := List.exists_mem_of_ne_nil _ (asg_ne h0 k hl')
  have hπ : ∃ π, π ∈ permsOf (lotAt f.lots k) := by
   unfold permsOf
   cases hk : (lotAt f.lots k).known with
   | true => exact ⟨_, by simp; rfl⟩
   | false =>
    refine ⟨(List.range (lotAt f.lots k).ins.length).map Int.ofNat, ?_⟩
    rw [if_neg (by decide), mem_permsL]
    unfold permB inB diffB
    simp only [Bool.and_eq_true, decide_eq_true_eq, List.all_eq_true, List.mem_map, List.mem_range, List.length_map, List.length_range, and_true, true_and]
    refine ⟨?_, List.pairwise_map.2 (List.nodup_range.imp fun {a b} hne e => hne (by have e' : (a : Int) = (b : Int) := e; omega))⟩
    rintro x ⟨a, ha, rfl⟩
    exact ⟨by simp, by simp; omega⟩
  obtain ⟨π, hπ⟩ := hπ
  exact List.ne_nil_of_mem (mem_asgTo.2 ⟨p, hp, π, hπ, rfl⟩)
end Go.Proofs.Yteiaeaciaglmgaa
set_option linter.unusedVariables false
set_option linter.unusedSimpArgs false
namespace Go.Proofs.Yteiaeaciaglmgaa
theorem nth_move {ins π p : List Int} {n : Int} {s : Nat} (hs : s < p.length) : nth (moveL ins π n p) s = mvI ins π n (nth p s) := by
 unfold moveL nth
 rw [List.getD_eq_getElem?_getD, List.getD_eq_getElem?_getD, List.getElem?_map, List.getElem?_eq_getElem hs]
 rfl
end Go.Proofs.Yteiaeaciaglmgaa
set_option linter.unusedVariables false
set_option linter.unusedSimpArgs false
namespace Go.Proofs.Yteiaeaciaglmgaa
theorem filter_split {α : Type} (p : α → Bool) : ∀ l : List α, l.length = (l.filter p).length + (l.filter fun a => !p a).length
 | [] => rfl
 | a :: l => by
  have ih := filter_split p l
  cases h : p a <;> simp [List.filter_cons, h] <;> omega
end Go.Proofs.Yteiaeaciaglmgaa
set_option linter.unusedVariables false
set_option linter.unusedSimpArgs false
namespace Go.Proofs.Yteiaeaciaglmgaa
theorem unk_unborn {f : Flow} {m : Nat} (h : lotsB f m = true) {s : Int} (hs : beforeI f (m - 1) ≤ s) : unkTo f s m < 0 := by
 have := unkTo_stay' (f := f) (s := s) (k := 0) (m := m) (Nat.zero_le _) (fun j _ hj => by
  show hasB (lotAt f.lots j).ins s = false
  cases hh : hasB (lotAt f.lots j).ins s
  ·rfl
  ·have h1 := ins_lt h hj hh
   have h2 := beforeI_mono (f := f) (show j ≤ m - 1 by omega)
   omega) (by simp [unkTo])
 omega
/-- behind m lots a letter is where known lots lead it, from its sender or from the last unknown lot -/
def LastAt (f : Flow) (p : List Int) (m s : Nat) : Prop :=
 (unkTo f s m < 0 → nth p s = spotAt f s m) ∧
 (0 ≤ unkTo f s m → ∃ j i : Nat, j < m ∧ (lotAt f.lots j).known = false ∧ i < (lotAt f.lots j).ins.length ∧ nth p s = spotAt f (beforeI f j + i) m ∧ unkTo f (beforeI f j + i) m < 0)
theorem last_step {f : Flow} {k : Nat} (hl : lotsB f (k + 1) = true) {π : List Int} (hπ : π ∈ permsOf (lotAt f.lots k)) {t x : Int} (hx : x = spotAt f t k) (hu : unkTo f t k < 0) :
  (unkTo f t (k + 1) < 0 ∧ mvI (lotAt f.lots k).ins π (beforeI f k) x = spotAt f t (k + 1)) ∨
  (unkTo f t (k + 1) = k ∧ (lotAt f.lots k).known = false ∧ ∃ i : Nat, i < (lotAt f.lots k).ins.length ∧ mvI (lotAt f.lots k).ins π (beforeI f k) x = spotAt f (beforeI f k + i) (k + 1) ∧ unkTo f (beforeI f k + i) (k + 1) < 0) := by
 have hlot := lotsB_lot hl (show k < k + 1 by omega)
 have hperm := permsOf_perm hlot hπ
 by_cases hin : x ∈ (lotAt f.lots k).ins
 ·have hb : hasB (lotAt f.lots k).ins (spotAt f t k) = true := by rw [← hx]; exact hasB_mem.2 hin
  obtain ⟨j, hj, e1, e2, e3, e4⟩ := mv_in (n := beforeI f k) hperm hin
  cases hk : (lotAt f.lots k).known with
  | true =>
   refine .inl ⟨?_, ?_⟩
   ·simp only [unkTo]
    rw [if_neg (by omega), hb, hk]
    simp
   ·have hπe : π = (lotAt f.lots k).perm := by unfold permsOf at hπ; rw [hk] at hπ; simpa using hπ
    simp only [spotAt]
    rw [if_pos hb, e1, e4, hπe, hx]
  | false =>
   have hjn : ((j.toNat : Nat) : Int) = j := Int.toNat_of_nonneg e2
   refine .inr ⟨?_, rfl, j.toNat, by omega, ?_, ?_⟩
   ·simp only [unkTo]
    rw [if_neg (by omega), hb, hk]
    simp
   ·rw [spotAt_unborn hl (by simp only [Nat.add_sub_cancel]; omega), hjn, e1]
   ·exact unk_unborn hl (by simp only [Nat.add_sub_cancel]; omega)
 ·have hb : hasB (lotAt f.lots k).ins (spotAt f t k) = false := by
   cases h : hasB (lotAt f.lots k).ins (spotAt f t k) with
   | false => rfl
   | true => rw [← hx] at h; exact absurd (hasB_mem.1 h) hin
  refine .inl ⟨?_, ?_⟩
  ·simp only [unkTo]
   rw [if_neg (by omega), hb]
   simp
  ·simp only [spotAt]
   rw [hb, mv_out hin, hx]
   simp
theorem asg_last {f : Flow} (h0 : 0 ≤ f.senders) {s : Nat} (hs : (s : Int) < f.senders) : ∀ m, lotsB f m = true → ∀ p ∈ asgTo f m, LastAt f p m s
 | 0, _, p, hp => by
  obtain rfl : p = beginL f := List.mem_singleton.1 hp
  refine ⟨fun _ => ?_, fun h => by simp [unkTo] at h⟩
  have hsl : s < f.senders.toNat := by omega
  unfold beginL nth
  rw [List.getD_eq_getElem?_getD, List.getElem?_map, List.getElem?_range hsl]
  rfl
 | k + 1, hl, p, hp => by
  have hl' : lotsB f k = true := by simp only [lotsB, Bool.and_eq_true] at hl; exact hl.1
  obtain ⟨q, hq, π, hπ, rfl⟩ := mem_asgTo.1 hp
  have ih := asg_last h0 hs k hl' q hq
  have hn := nth_move (ins := (lotAt f.lots k).ins) (π := π) (n := beforeI f k) (show s < q.length by rw [asg_len k q hq]; omega)
  by_cases hu : unkTo f s k < 0
  ·rcases last_step hl hπ (ih.1 hu) hu with ⟨a, b⟩ | ⟨a, hk, i, hi, b, c⟩
   ·exact ⟨fun _ => by rw [hn, b], fun h => by omega⟩
   ·exact ⟨fun h => by omega, fun _ => ⟨k, i, by omega, hk, hi, by rw [hn, b], c⟩⟩
  ·have hst := unkTo_stay (f := f) (s := s) (k := k) (m := k + 1) (by omega) (by omega)
   obtain ⟨j, i, hj, hkj, hi, e, hn'⟩ := ih.2 (by omega)
   refine ⟨fun h => by omega, fun _ => ?_⟩
   rcases last_step hl hπ e hn' with ⟨a, b⟩ | ⟨a, hk, i', hi', b, c⟩
   ·exact ⟨j, i, by omega, hkj, hi, by rw [hn, b], a⟩
   ·exact ⟨k, i', by omega, hk, hi', by rw [hn, b], c⟩
theorem ext_nth {p q : List Int} (h : p.length = q.length) (he : ∀ s, s < p.length → nth p s = nth q s) : p = q := by
 refine List.ext_getElem h (fun i h1 h2 => ?_)
 have := he i h1
 rw [nth_lt h1, nth_lt h2] at this
 exact this
def facN : Nat → Nat
 | 0 => 1
 | n + 1 => (n + 1) * facN n
theorem facN_pos : ∀ n, 1 ≤ facN n
 | 0 => Nat.le_refl _
 | n + 1 => by
  have := facN_pos n
  simp only [facN]
  exact Nat.mul_le_mul (show 1 ≤ n + 1 by omega) this
theorem len_flat_if {α β : Type} {c : α → Bool} {G : α → List β} {v : Nat} : ∀ {l : List α}, (∀ x ∈ l, c x = false → (G x).length = v) → (l.flatMap fun x => if c x then [] else G x).length = (l.filter fun x => !c x).length * v
 | [], _ => by simp
 | a :: l, h => by
  have ih := len_flat_if (c := c) (G := G) (v := v) (l := l) (fun x hx => h x (List.mem_cons_of_mem _ hx))
  rw [List.flatMap_cons, List.length_append, ih, List.filter_cons]
  cases hc : c a with
  | true => simp
  | false =>
   have := h a (by simp) hc
   simp only [Bool.false_eq_true, if_false, Bool.not_false, if_true, List.length_cons]
   rw [this, Nat.add_mul, Nat.one_mul, Nat.add_comm]
theorem not_in_len {n : Nat} {b : List Int} (hb : Begins n b) : ((List.range n).filter fun (x : Nat) => !hasB b (x : Int)).length + b.length = n := by
 have h1 := filter_split (fun (x : Nat) => hasB b (x : Int)) (List.range n)
 rw [List.length_range] at h1
 have h2 : ((List.range n).filter fun (x : Nat) => hasB b (x : Int)).length = b.length := by
  have e : (((List.range n).filter fun (x : Nat) => hasB b (x : Int)).map Int.ofNat).length = ((List.range n).filter fun (x : Nat) => hasB b (x : Int)).length := List.length_map ..
  have hn : (((List.range n).filter fun (x : Nat) => hasB b (x : Int)).map Int.ofNat).Nodup :=
   List.pairwise_map.2 ((List.Nodup.sublist List.filter_sublist List.nodup_range).imp fun {a c} hne e => hne (by have e' : (a : Int) = (c : Int) := e; omega))
  have a1 := nodup_len hn (m := b) (fun x hx => by
   obtain ⟨y, hy, rfl⟩ := List.mem_map.1 hx
   exact hasB_mem.1 (List.mem_filter.1 hy).2)
  have a2 := nodup_len hb.1 (m := ((List.range n).filter fun (x : Nat) => hasB b (x : Int)).map Int.ofNat) (fun x hx => by
   have := hb.2 x hx
   have hxn : ((x.toNat : Nat) : Int) = x := Int.toNat_of_nonneg this.1
   exact List.mem_map.2 ⟨x.toNat, List.mem_filter.2 ⟨List.mem_range.2 (by omega), by rw [hxn]; exact hasB_mem.2 hx⟩, hxn⟩)
  omega
 omega
theorem permsF_len {n : Nat} : ∀ (f : Nat) (b : List Int), Begins n b → b.length + f = n → (permsF n f b).length = facN f
 | 0, b, _, _ => rfl
 | f + 1, b, hb, hf => by
  have h2 := not_in_len hb
  simp only [permsF]
  rw [len_flat_if (v := facN f) (fun x hx hc => permsF_len f _ (by
   have hnb : (x : Int) ∉ b := fun hm => by rw [hasB_mem.2 hm] at hc; cases hc
   refine ⟨List.nodup_append.2 ⟨hb.1, by simp, fun y hy z hz e => ?_⟩, fun y hy => ?_⟩
   ·obtain rfl := List.mem_singleton.1 hz
    subst e
    exact hnb hy
   ·rcases List.mem_append.1 hy with hy | hy
    ·exact hb.2 y hy
    ·obtain rfl := List.mem_singleton.1 hy
     have := List.mem_range.1 hx
     omega) (by simp; omega))]
  simp only [facN]
  congr 1
  omega
theorem permsL_len (n : Nat) : (permsL n).length = facN n := permsF_len n [] ⟨List.nodup_nil, fun x h => by cases h⟩ (by simp)
end Go.Proofs.Yteiaeaciaglmgaa
set_option linter.unusedVariables false
set_option linter.unusedSimpArgs false
namespace Go.Proofs.Yteiaeaciaglmgaa
/-- the same senders and lots; what is known may differ -/
structure Like (f g : Flow) : Prop where
 snd : g.senders = f.senders
 len : g.lots.length = f.lots.length
 ins : ∀ j, (lotAt g.lots j).ins = (lotAt f.lots j).ins
theorem Like.before {f g : Flow} (h : Like f g) : ∀ k, beforeI g k = beforeI f k
 | 0 => h.snd
 | k + 1 => by simp only [beforeI, h.before k, h.ins]
theorem Like.gone {f g : Flow} (h : Like f g) (x : Int) : ∀ k, goneB g x k = goneB f x k
 | 0 => rfl
 | k + 1 => by simp only [goneB, h.gone x k, h.ins]
end Go.Proofs.Yteiaeaciaglmgaa
set_option linter.unusedVariables false
set_option linter.unusedSimpArgs false
namespace Go.Proofs.Yteiaeaciaglmgaa
theorem unk_is {f : Flow} {s : Int} : ∀ {m : Nat}, 0 ≤ unkTo f s m → ∃ j, j < m ∧ unkTo f s m = (j : Int) ∧ (lotAt f.lots j).known = false
 | 0, h => by simp [unkTo] at h
 | m + 1, h => by
  by_cases h1 : 0 ≤ unkTo f s m
  ·obtain ⟨j, a, b, c⟩ := unk_is h1
   exact ⟨j, by omega, by rw [unkTo_stay h1 (by omega), b], c⟩
  ·simp only [unkTo] at h ⊢
   rw [if_neg h1] at h ⊢
   split
   ·rename_i hb
    rw [Bool.and_eq_true, Bool.not_eq_true'] at hb
    exact ⟨m, by omega, rfl, hb.2⟩
   ·rename_i hb
    rw [if_neg hb] at h
    omega
/-- where the letter of each sender is in the end -/
def mapL (f : Flow) : List Int := (List.range f.senders.toNat).map fun (s : Nat) => spotAt f (s : Int) f.lots.length
end Go.Proofs.Yteiaeaciaglmgaa
set_option linter.unusedVariables false
set_option linter.unusedSimpArgs false
set_option linter.unusedVariables false
set_option linter.unusedSimpArgs false
namespace Go.Proofs.Yteiaeaciaglmgaa
open Go.RowKit
/-- v reads as the numbers xs, all cells in blocks of the kind X -/
def IsIntsX (X : Nat → Prop) (w : World) (v : Value) (xs : List Int) : Prop :=
 ∃ b off cap, SliceV v xs.length b off cap ∧ xs.length ≤ 17592186043904 ∧ (∀ x ∈ xs, I64 x) ∧
  ∀ j, j < xs.length → X b ∧ b < w.heap.size ∧ w.cell? ⟨b, off + j, none⟩ = some (.int .i64 (nth xs j))
theorem IsIntsX.turned {X Y : Nat → Prop} {w w' : World} {v : Value} {xs : List Int} (h : IsIntsX X w v xs) (ht : Turned Y w w') (hx : ∀ k, X k → ¬ Y k) : IsIntsX X w' v xs := by
 obtain ⟨b, off, cap, h1, h2, h3, h4⟩ := h
 refine ⟨b, off, cap, h1, h2, h3, fun j hj => ?_⟩
 obtain ⟨a, c, d⟩ := h4 j hj
 exact ⟨a, by have := ht.size; omega, (ht.cell (p := ⟨b, off + j, none⟩) c (hx b a)).trans d⟩
theorem IsIntsX.mono {X Y : Nat → Prop} {w : World} {v : Value} {xs : List Int} (h : IsIntsX X w v xs) (hxy : ∀ k, X k → Y k) : IsIntsX Y w v xs := by
 obtain ⟨b, off, cap, h1, h2, h3, h4⟩ := h
 exact ⟨b, off, cap, h1, h2, h3, fun j hj => ⟨hxy _ (h4 j hj).1, (h4 j hj).2⟩⟩
theorem IsInts.kind {B : Nat} {w : World} {v : Value} {xs : List Int} (h : IsInts B w v xs) (hB : B ≤ w.heap.size) {X : Nat → Prop} (hX : ∀ k, k < B → X k) : IsIntsX X w v xs := by
 obtain ⟨b, off, cap, h1, h2, h3, h4⟩ := h
 exact ⟨b, off, cap, h1, h2, h3, fun j hj => ⟨hX _ (h4 j hj).1, by have := (h4 j hj).1; omega, (h4 j hj).2⟩⟩
end Go.Proofs.Yteiaeaciaglmgaa
set_option linter.unusedVariables false
set_option linter.unusedSimpArgs false
namespace Go.Proofs.Yteiaeaciaglmgaa
open Go.RowKit
def updV (xs : Nat → Value) (i : Nat) (v : Value) : Nat → Value := fun j => if j = i then v else xs j
theorem updV_self (xs : Nat → Value) (i : Nat) (v : Value) : updV xs i v i = v := by unfold updV; rw [if_pos rfl]
theorem updV_ne {xs : Nat → Value} {i j : Nat} {v : Value} (h : j ≠ i) : updV xs i v j = xs j := by unfold updV; rw [if_neg h]
theorem une (xs : Nat → Value) (j i : Nat) {v : Value} (h : (j == i) = false) : updV xs i v j = xs j := updV_ne (fun e => by subst e; simp at h)
theorem getD_setIf {l : Array Value} {d t : Nat} {v : Value} (hd : d < l.size) : (l.setIfInBounds d v).getD t undef = if t = d then v else l.getD t undef := by
 rw [Array.getD_eq_getD_getElem?, Array.getD_eq_getD_getElem?]
 by_cases h : t = d
 ·subst h
  rw [if_pos rfl]
  simp [hd]
 ·rw [if_neg h, Array.getElem?_setIfInBounds_ne (fun e => h e.symm)]
/-- two frames are one if all their slots are -/
theorem act_ext {a b : Act} (hd : a.defers = b.defers) (hs : a.tmps.size = b.tmps.size) (h : ∀ t, t < b.tmps.size → a.tmps.getD t undef = b.tmps.getD t undef) : a = b := by
 obtain ⟨x, y⟩ := a
 obtain ⟨x', y'⟩ := b
 simp only at hd hs h
 subst hd
 congr 1
 apply Array.ext hs
 intro i h1 h2
 have := h i h2
 rw [Array.getD_eq_getD_getElem?, Array.getD_eq_getD_getElem?, Array.getElem?_eq_getElem h1, Array.getElem?_eq_getElem h2] at this
 exact this
end Go.Proofs.Yteiaeaciaglmgaa
set_option linter.unusedVariables false
set_option linter.unusedSimpArgs false
namespace Go.Proofs.Yteiaeaciaglmgaa
open Go.RowKit
def dsInj : List (Option Nat) → Bool
 | [] => true
 | none :: r => dsInj r
 | some d :: r => !(r.contains (some d)) && dsInj r
def dsBd (n : Nat) : List (Option Nat) → Bool
 | [] => true
 | none :: r => dsBd n r
 | some d :: r => decide (d < n) && dsBd n r
theorem dsInj_at : ∀ {ds : List (Option Nat)}, dsInj ds = true → ∀ {i j d : Nat}, ds[i]? = some (some d) → ds[j]? = some (some d) → i = j
 | [], _, i, j, d, h, _ => by simp at h
 | none :: r, hi, 0, j, d, h, _ => by simp at h
 | none :: r, hi, i + 1, 0, d, _, h => by simp at h
 | none :: r, hi, i + 1, j + 1, d, h1, h2 => by
  have := dsInj_at (ds := r) hi (i := i) (j := j) (d := d) (by simpa using h1) (by simpa using h2)
  omega
 | some e :: r, hi, 0, 0, d, _, _ => rfl
 | some e :: r, hi, 0, j + 1, d, h1, h2 => by
  simp only [dsInj, Bool.and_eq_true, Bool.not_eq_true', List.contains_eq_mem, decide_eq_false_iff_not] at hi
  have e1 : e = d := by simpa using h1
  subst e1
  exact absurd (List.mem_of_getElem? (by simpa using h2)) hi.1
 | some e :: r, hi, i + 1, 0, d, h1, h2 => by
  simp only [dsInj, Bool.and_eq_true, Bool.not_eq_true', List.contains_eq_mem, decide_eq_false_iff_not] at hi
  have e1 : e = d := by simpa using h2
  subst e1
  exact absurd (List.mem_of_getElem? (by simpa using h1)) hi.1
 | some e :: r, hi, i + 1, j + 1, d, h1, h2 => by
  simp only [dsInj, Bool.and_eq_true] at hi
  have := dsInj_at (ds := r) hi.2 (i := i) (j := j) (d := d) (by simpa using h1) (by simpa using h2)
  omega
theorem dsBd_at : ∀ {ds : List (Option Nat)} {n : Nat}, dsBd n ds = true → ∀ {i d : Nat}, ds[i]? = some (some d) → d < n
 | [], n, _, i, d, h => by simp at h
 | none :: r, n, hi, 0, d, h => by simp at h
 | none :: r, n, hi, i + 1, d, h => dsBd_at (ds := r) hi (by simpa using h)
 | some e :: r, n, hi, 0, d, h => by
  simp only [dsBd, Bool.and_eq_true, decide_eq_true_eq] at hi
  have e1 : e = d := by simpa using h
  subst e1
  exact hi.1
 | some e :: r, n, hi, i + 1, d, h => by
  simp only [dsBd, Bool.and_eq_true] at hi
  exact dsBd_at (ds := r) hi.2 (by simpa using h)
/-- the frame a0 in which the done operations have put xs into their slots -/
structure FrameV (a0 : Act) (ds : List (Option Nat)) (L : Nat → Bool) (xs : Nat → Value) (a : Act) : Prop where
 defers : a.defers = a0.defers
 size : a.tmps.size = a0.tmps.size
 slot : ∀ i d, ds[i]? = some (some d) → L i = true → a.tmps.getD d undef = xs i
 out : ∀ t, ds.contains (some t) = false → a.tmps.getD t undef = a0.tmps.getD t undef
 rest : ∀ i d, ds[i]? = some (some d) → L i = false → a.tmps.getD d undef = a0.tmps.getD d undef
theorem FrameV.start (a0 : Act) (ds : List (Option Nat)) (xs : Nat → Value) : FrameV a0 ds (fun _ => false) xs a0 := ⟨rfl, rfl, (fun _ _ _ h => by cases h), (fun _ _ => rfl), (fun _ _ _ _ => rfl)⟩
theorem FrameV.put {a0 a : Act} {ds : List (Option Nat)} {L : Nat → Bool} {xs : Nat → Value} (h : FrameV a0 ds L xs a) (hi : dsInj ds = true) (hn : dsBd a0.tmps.size ds = true) {i : Nat} {o : Option Nat} (hd : ds[i]? = some o) (v : Value) : FrameV a0 ds (upd L i) (updV xs i v) (a.put o v) := by
 cases o with
 | none =>
  refine ⟨h.defers, h.size, fun j d hj hL => ?_, h.out, fun j d hj hL => ?_⟩
  ·have hne : j ≠ i := fun e => by subst e; rw [hd] at hj; cases hj
   rw [updV_ne hne]
   refine h.slot j d hj ?_
   unfold upd at hL
   simpa [hne] using hL
  ·refine h.rest j d hj ?_
   unfold upd at hL
   simp at hL
   exact hL.2
 | some d =>
  have hlt : d < a.tmps.size := by rw [h.size]; exact dsBd_at hn hd
  refine ⟨h.defers, ?_, fun j e hj hL => ?_, fun t ht => ?_, fun j e hj hL => ?_⟩
  ·show (a.tmps.setIfInBounds d v).size = _
   rw [Array.size_setIfInBounds, h.size]
  ·show (a.tmps.setIfInBounds d v).getD e undef = _
   rw [getD_setIf hlt]
   by_cases hne : j = i
   ·subst hne
    rw [hd] at hj
    obtain rfl : d = e := by injection hj with hj; injection hj
    rw [if_pos rfl, updV_self]
   ·rw [if_neg (fun e1 => hne (dsInj_at hi hj (by rw [e1]; exact hd))), updV_ne hne]
    refine h.slot j e hj ?_
    unfold upd at hL
    simpa [hne] using hL
  ·show (a.tmps.setIfInBounds d v).getD t undef = _
   rw [getD_setIf hlt, if_neg, h.out t ht]
   rintro rfl
   have := List.mem_of_getElem? hd
   simp only [List.contains_eq_mem, decide_eq_false_iff_not] at ht
   exact ht this
  ·show (a.tmps.setIfInBounds d v).getD e undef = _
   unfold upd at hL
   simp at hL
   rw [getD_setIf hlt, if_neg (fun e1 => hL.1 (dsInj_at hi hj (by rw [e1]; exact hd)))]
   exact h.rest j e hj hL.2
/-- the value of a done operation's slot -/
theorem FrameV.ev {a0 a : Act} {ds : List (Option Nat)} {L : Nat → Bool} {xs : Nat → Value} (h : FrameV a0 ds L xs a) (i : Nat) {d : Nat} (hd : ds[i]? = some (some d)) (hL : L i = true) : a.eval (.tmp d) = xs i := h.slot i d hd hL
/-- a slot that is none of the region's -/
theorem FrameV.lo {a0 a : Act} {ds : List (Option Nat)} {L : Nat → Bool} {xs : Nat → Value} (h : FrameV a0 ds L xs a) (t : Nat) (ht : ds.contains (some t) = false) : a.eval (.tmp t) = a0.eval (.tmp t) := h.out t ht
def putGo (xs : Nat → Value) : Nat → List (Option Nat) → Act → Act
 | _, [], a => a
 | k, d :: r, a => putGo xs (k + 1) r (a.put d (xs k))
theorem put_size (a : Act) (o : Option Nat) (v : Value) : (a.put o v).tmps.size = a.tmps.size := by
 cases o with
 | none => rfl
 | some d => show (a.tmps.setIfInBounds d v).size = _; rw [Array.size_setIfInBounds]
theorem put_defers (a : Act) (o : Option Nat) (v : Value) : (a.put o v).defers = a.defers := by cases o <;> rfl
theorem putGo_size (xs : Nat → Value) : ∀ (ds : List (Option Nat)) (k : Nat) (a : Act), (putGo xs k ds a).tmps.size = a.tmps.size ∧ (putGo xs k ds a).defers = a.defers
 | [], k, a => ⟨rfl, rfl⟩
 | d :: r, k, a => by
  obtain ⟨h1, h2⟩ := putGo_size xs r (k + 1) (a.put d (xs k))
  exact ⟨h1.trans (put_size _ _ _), h2.trans (put_defers _ _ _)⟩
theorem putGo_at (xs : Nat → Value) : ∀ (ds : List (Option Nat)) (k : Nat) (a : Act), dsInj ds = true → dsBd a.tmps.size ds = true → ∀ t,
  (∀ i, ds[i]? = some (some t) → (putGo xs k ds a).tmps.getD t undef = xs (k + i)) ∧ (ds.contains (some t) = false → (putGo xs k ds a).tmps.getD t undef = a.tmps.getD t undef)
 | [], k, a, _, _, t => ⟨fun i h => by simp at h, fun _ => rfl⟩
 | none :: r, k, a, hi, hn, t => by
  obtain ⟨h1, h2⟩ := putGo_at xs r (k + 1) (a.put none (xs k)) hi hn t
  refine ⟨fun i h => ?_, fun h => ?_⟩
  ·match i, h with
   | 0, h => simp at h
   | i + 1, h => rw [show k + (i + 1) = k + 1 + i by omega]; exact h1 i (by simpa using h)
  ·exact h2 (by simpa using h)
 | some d :: r, k, a, hi, hn, t => by
  simp only [dsInj, Bool.and_eq_true, Bool.not_eq_true'] at hi
  have hd : d < a.tmps.size := by simp only [dsBd, Bool.and_eq_true, decide_eq_true_eq] at hn; exact hn.1
  have hn2 : dsBd (a.put (some d) (xs k)).tmps.size r = true := by rw [put_size]; simp only [dsBd, Bool.and_eq_true] at hn; exact hn.2
  obtain ⟨h1, h2⟩ := putGo_at xs r (k + 1) (a.put (some d) (xs k)) hi.2 hn2 t
  refine ⟨fun i h => ?_, fun h => ?_⟩
  ·match i, h with
   | 0, h =>
    obtain rfl : d = t := by simpa using h
    show (putGo xs (k + 1) r (a.put (some d) (xs k))).tmps.getD d undef = xs k
    rw [h2 hi.1]
    show (a.tmps.setIfInBounds d (xs k)).getD d undef = _
    rw [getD_setIf hd, if_pos rfl]
   | i + 1, h => rw [show k + (i + 1) = k + 1 + i by omega]; exact h1 i (by simpa using h)
  ·have h' : t ≠ d ∧ r.contains (some t) = false := by simpa using h
   show (putGo xs (k + 1) r (a.put (some d) (xs k))).tmps.getD t undef = _
   rw [h2 h'.2]
   show (a.tmps.setIfInBounds d (xs k)).getD t undef = _
   rw [getD_setIf hd, if_neg h'.1]
theorem FrameV.final {a0 a : Act} {ds : List (Option Nat)} {L : Nat → Bool} {xs : Nat → Value} (h : FrameV a0 ds L xs a) (hi : dsInj ds = true) (hn : dsBd a0.tmps.size ds = true) (hL : ∀ i, i < ds.length → L i = true) : a = putGo xs 0 ds a0 := by
 obtain ⟨s1, s2⟩ := putGo_size xs ds 0 a0
 refine act_ext (h.defers.trans s2.symm) (h.size.trans s1.symm) fun t _ => ?_
 obtain ⟨p1, p2⟩ := putGo_at xs ds 0 a0 hi hn t
 by_cases hc : ds.contains (some t) = true
 ·obtain ⟨i, hi'⟩ := List.getElem?_of_mem (by simpa using hc)
  rw [p1 i hi', h.slot i t hi' (hL i (List.getElem?_eq_some_iff.1 hi').1), Nat.zero_add]
 ·have hc' : ds.contains (some t) = false := by simpa using hc
  rw [p2 hc', h.out t hc']
section
variable {P : Program} {ops : Array Oper} {Q : Exit → Act → World → Prop}
def VStep (P : Program) (ops : Array Oper) (Q : Exit → Act → World → Prop) (ds : List (Option Nat)) (a0 : Act) (J : (Nat → Bool) → World → (Nat → Value) → Prop) (i : Nat) (o : Oper) : Prop :=
 ∀ (L : Nat → Bool) (a' : Act) (w' : World) (xs : Nat → Value), L i = false → allOn L (depsOf o) → FrameV a0 ds L xs a' → J L w' xs →
  ∀ K : Act → World → Prop, Shut (∀ v w'', J (upd L i) w'' (updV xs i v) → K (a'.put o.dst v) w'') → if Region.wanted o (yielded ops a'.tmps) = true then Oper.wp P o a' w' K Q else K (a'.put o.dst undef) w'
def VSteps (P : Program) (ops : Array Oper) (Q : Exit → Act → World → Prop) (ds : List (Option Nat)) (a0 : Act) (J : (Nat → Bool) → World → (Nat → Value) → Prop) : Nat → List Oper → Prop
 | _, [] => True
 | k, o :: r => VStep P ops Q ds a0 J k o ∧ VSteps P ops Q ds a0 J (k + 1) r
theorem VSteps.inv {ds : List (Option Nat)} {a0 : Act} {J : (Nat → Bool) → World → (Nat → Value) → Prop} (hi : dsInj ds = true) (hn : dsBd a0.tmps.size ds = true) : ∀ {l : List Oper} {k : Nat}, (∀ i o, l[i]? = some o → ds[k + i]? = some o.dst) → VSteps P ops Q ds a0 J k l →
  InvSteps P ops Q (fun L a' w' => ∃ xs, FrameV a0 ds L xs a' ∧ J L w' xs) k l
 | [], _, _, _ => trivial
 | o :: r, k, hd, h => by
  refine ⟨?_, VSteps.inv hi hn (fun i o' ho => ?_) h.2⟩
  ·intro L a' w' hL hdep hI K hK
   obtain ⟨xs, hf, hJ⟩ := hI
   exact h.1 L a' w' xs hL hdep hf hJ K (show ∀ v w'', J (upd L k) w'' (updV xs k v) → K (a'.put o.dst v) w'' from fun v w'' hJ' => hK.out _ _ ⟨_, hf.put hi hn (by simpa using hd 0 o rfl) v, hJ'⟩)
  ·have := hd (i + 1) o' (by simpa using ho)
   rw [show k + 1 + i = k + (i + 1) by omega]
   exact this
/-- a region whose order is drawn, by what its slots hold -/
theorem wp_region_V {id : Nat} {l : List Oper} {a : Act} {w : World} (ds : List (Option Nat)) (J : (Nat → Bool) → World → (Nat → Value) → Prop) (hm : P.follows .mixedOrders = true) (hb : backB 0 l = true) (hds : l.map (·.dst) = ds) (hi : dsInj ds = true) (hn : dsBd a.tmps.size ds = true)
  (h0 : ∀ xs, J (fun _ => false) w.drew xs) (hs : VSteps P l.toArray Q ds a J 0 l) (he : ∀ (L : Nat → Bool) w' xs, (∀ i, i < ds.length → L i = true) → J L w' xs → Q .normal (putGo xs 0 ds a) w') : (Code.region id l.toArray true).wp P Q a w := by
 have hlen : ds.length = l.length := by rw [← hds]; simp
 refine wp_region_inv (fun a0 L a' w' => ∃ xs, FrameV a0 ds L xs a' ∧ J L w' xs) hm hb ⟨fun _ => undef, FrameV.start _ _ _, h0 _⟩ (VSteps.inv hi hn (fun i o ho => ?_) hs) ?_
 ·rw [← hds, Nat.zero_add, List.getElem?_map, ho]; rfl
 ·rintro L a' w' hL ⟨xs, hf, hJ⟩
  rw [hf.final hi hn (fun i h => hL i (by omega))]
  exact he L w' xs (fun i h => hL i (by omega)) hJ
end
/-- values that are known ahead -/
def ValsAt (V : List (Option Value)) (L : Nat → Bool) (xs : Nat → Value) : Prop := ∀ j v, V[j]? = some (some v) → L j = true → xs j = v
theorem ValsAt.none (V : List (Option Value)) (xs : Nat → Value) : ValsAt V (fun _ => false) xs := fun _ _ _ h => by cases h
theorem ValsAt.set {V : List (Option Value)} {L : Nat → Bool} {xs : Nat → Value} (h : ValsAt V L xs) {i : Nat} {v : Value} (hv : V[i]? = some (some v)) : ValsAt V (upd L i) (updV xs i v) := fun j u hj hL => by
 by_cases e : j = i
 ·subst e
  rw [hj] at hv
  rw [updV_self]
  exact (Option.some.inj (Option.some.inj hv)).symm
 ·rw [updV_ne e]
  refine h j u hj ?_
  unfold upd at hL
  simpa [e] using hL
theorem ValsAt.free {V : List (Option Value)} {L : Nat → Bool} {xs : Nat → Value} (h : ValsAt V L xs) {i : Nat} (hv : V[i]? = some Option.none) (v : Value) : ValsAt V (upd L i) (updV xs i v) := fun j u hj hL => by
 by_cases e : j = i
 ·subst e
  rw [hj] at hv
  cases hv
 ·rw [updV_ne e]
  refine h j u hj ?_
  unfold upd at hL
  simpa [e] using hL
end Go.Proofs.Yteiaeaciaglmgaa
set_option linter.unusedVariables false
set_option linter.unusedSimpArgs false
namespace Go.Proofs.Yteiaeaciaglmgaa
open Go.RowKit
/-- are the first k rows of two tables equal? -/
def sameMTo (a b : List (List Int)) : Nat → Bool
 | 0 => true
 | k + 1 => sameMTo a b k && sameB (rowAt a k) (rowAt b k)
def sameM (a b : List (List Int)) : Bool := decide (a = b)
theorem sameMTo_iff {a b : List (List Int)} : ∀ {k : Nat}, k ≤ a.length → k ≤ b.length → (sameMTo a b k = true ↔ a.take k = b.take k)
 | 0, _, _ => by simp [sameMTo]
 | k + 1, h1, h2 => by
  have e1 : rowAt a k = a[k] := by unfold rowAt; rw [List.getD_eq_getElem?_getD, List.getElem?_eq_getElem (by omega)]; rfl
  have e2 : rowAt b k = b[k] := by unfold rowAt; rw [List.getD_eq_getElem?_getD, List.getElem?_eq_getElem (by omega)]; rfl
  have ih := sameMTo_iff (a := a) (b := b) (k := k) (by omega) (by omega)
  simp only [sameMTo, Bool.and_eq_true, ih]
  rw [List.take_succ_eq_append_getElem (by omega), List.take_succ_eq_append_getElem (by omega), e1, e2]
  unfold sameB
  rw [decide_eq_true_eq]
  constructor
  ·rintro ⟨h, h'⟩; rw [h, h']
  ·intro h
   have := List.append_inj' h rfl
   exact ⟨this.1, by simpa using this.2⟩
theorem sameM_all {a b : List (List Int)} (hl : a.length = b.length) (h : sameMTo a b a.length = true) : sameM a b = true := by
 have := (sameMTo_iff (Nat.le_refl _) (by omega)).1 h
 rw [List.take_length, hl, List.take_length] at this
 exact decide_eq_true this
theorem sameM_not {a b : List (List Int)} {k : Nat} (h : sameB (rowAt a k) (rowAt b k) = false) : sameM a b = false := by
 refine decide_eq_false ?_
 rintro rfl
 unfold sameB at h
 simp at h
theorem sameM_len {a b : List (List Int)} (h : a.length ≠ b.length) : sameM a b = false := decide_eq_false fun e => h (by rw [e])
theorem OwnInts.cellAt {C : Nat} {w : World} {g n cap : Nat} {xs : List Int} (h : OwnInts C w (.slice (some ⟨g, 0, none⟩) n cap) xs) (hn : n = xs.length) {j : Nat} (hj : j < xs.length) : w.cell? ⟨g, j, none⟩ = some (.int .i64 (nth xs j)) := by
 subst hn
 rw [h.1.cellAt j (by omega), List.getElem?_map, List.getElem?_eq_getElem hj, nth_eq_getElem hj]
 rfl
theorem OwnInts.freeAt {C : Nat} {w : World} {g n cap : Nat} {xs : List Int} (h : OwnInts C w (.slice (some ⟨g, 0, none⟩) n cap) xs) (hn : n = xs.length) (j : Nat) : w.frozen? ⟨g, j, none⟩ = false := by
 subst hn
 exact h.1.frozenAt j
theorem OwnInts.store {C : Nat} {w : World} {g n cap : Nat} {xs : List Int} (h : OwnInts C w (.slice (some ⟨g, 0, none⟩) n cap) xs) (hn : n = xs.length) (j : Nat) {y : Int} (hy : I64 y) :
  OwnInts C (w.setCell ⟨g, j, none⟩ (.int .i64 y)) (.slice (some ⟨g, 0, none⟩) n cap) (xs.set j y) := by
 subst hn
 obtain ⟨h1, h2, h3⟩ := h
 have h4 := (h1.stored j (.int .i64 y)).1
 rw [show (xs.map (Value.int .i64)).set j (.int .i64 y) = (xs.set j y).map (Value.int .i64) by rw [List.map_set]] at h4
 refine ⟨by rw [List.length_set]; exact h4, by rw [List.length_set]; exact h2, fun x hx => ?_⟩
 rcases List.mem_or_eq_of_mem_set hx with hx | rfl
 ·exact h3 x hx
 ·exact hy
end Go.Proofs.Yteiaeaciaglmgaa
set_option linter.unusedVariables false
set_option linter.unusedSimpArgs false
set_option linter.unusedVariables false
set_option linter.unusedSimpArgs false
set_option linter.unusedVariables false
set_option linter.unusedSimpArgs false
set_option linter.unusedVariables false
set_option linter.unusedSimpArgs false
namespace Go.Proofs.Yteiaeaciaglmgaa
open Go.RowKit
theorem IsInts.form {B : Nat} {w : World} {v : Value} {xs : List Int} (h : IsInts B w v xs) : ∃ a c, v = .slice a xs.length c := by
 obtain ⟨_, _, c, ⟨a, e, _⟩, _⟩ := h; exact ⟨a, c, e⟩
theorem OwnInts.zeros {C m : Nat} {w : World} (hC : C ≤ w.heap.size) (hm : m ≤ 1000000) : OwnInts C (w.alloc (.cells (List.replicate m (Value.int .i64 0)).toArray 3)) (.slice (some ⟨w.heap.size, 0, none⟩) m m) (List.replicate m 0) := by
 refine ⟨⟨by simp, Or.inr ⟨w.heap.size, m, _, by simp, hC, heap_alloc_new w _, by simp, by unfold maxLen; omega, by simp, ?_⟩⟩, by simp; omega, fun x hx => ?_⟩
 ·simp [List.take_of_length_le]
 ·rw [List.eq_of_mem_replicate hx]; unfold I64; omega
theorem wpList_make_ints {ops : Array Oper} {rest : List Oper} {o : Oper} {a : Act} {w : World} {Q : Exit → Act → World → Prop} (hgd : o.guard = none) (l c : Operand) (hop : o.op = Op.makeSlice 25 l c)
  {m C : Nat} (hl : a.eval l = .int .i64 (m : Int)) (hc : a.eval c = .int .i64 (m : Int)) (hm : m ≤ 100000) (hC : C ≤ w.heap.size)
  (h : ∀ w', OwnInts C w' (.slice (some ⟨w.heap.size, 0, none⟩) m m) (List.replicate m 0) → Below w.heap.size w w' → w'.heap.size = w.heap.size + 1 → wpList Try.prog ops Q rest (a.put o.dst (.slice (some ⟨w.heap.size, 0, none⟩) m m)) w') : wpList Try.prog ops Q (o :: rest) a w := by
 obtain ⟨i0, hi, hz0, hz1, hz2⟩ := info_parts int_info
 refine wpList_plain hgd fun K hK => ?_
 have hr := run_make (P := Try.prog) w 25 3 i0 (.int .i64 0) Try.underlying25 hi hz0 .i64 .i64 m m (by omega) (by omega) (by rw [hz2]; omega) (by omega)
 simp only [Int.toNat_natCast, hz1, Nat.mul_one] at hr
 have hmc : madeCells (Value.int .i64 0).cells m = (List.replicate m (Value.int .i64 0)).toArray := by
  apply Array.ext
  ·simp [madeCells]
  ·intro i h1 h2
   simp [madeCells, Value.cells, Nat.mod_one]
 unfold Oper.wp
 simp only [execOp, hop, hl, hc]
 simp [hr, Result.andThen]
 rw [hmc]
 exact hK _ _ (h _ (OwnInts.zeros hC (by omega)) (box_below' w _) (by simp))
end Go.Proofs.Yteiaeaciaglmgaa
set_option linter.unusedVariables false
set_option linter.unusedSimpArgs false
namespace Go.Proofs.Yteiaeaciaglmgaa
open Go.RowKit
set_option maxHeartbeats 2000000 in
set_option maxRecDepth 100000 in
/-- slices.Clone of what is not nil -/
theorem clone_any (B b off cap : Nat) (w : World) (xs : List Int) (hx : IsInts B w (.slice (some ⟨b, off, none⟩) xs.length cap) xs) (hB : B ≤ w.heap.size) :
  Calls Try.prog 57 #[.slice (some ⟨b, off, none⟩) xs.length cap] w fun e w' => ∃ v, e = .returned v ∧ OwnInts w.heap.size w' v xs ∧ Below w.heap.size w w' := by
 have HX := Lib.hid hx
 have HB := Lib.hid hB
 clear hx hB
 have hnil : (binOp .eql 25 (.slice (some ⟨b, off, none⟩) xs.length cap) (.slice none 0 0)).run Try.prog w = .ok (.bool false) w := Go.Lib.run_eql_slice_nil w _ _ _ _ _ _ _ Try.underlying25
 go_enter Try.func57, Try.ntmps57
 go_wp2_with (at_builtin; refine append_intsA (B := w.heap.size) (xs := []) rfl _ _ rfl xs rfl (OwnInts.made (Nat.le_refl _)) rfl ?a1 ?a2 ?a3 ?a4 ?a5)
 case a1 => exact (HX.out.below ((Below.refl B w).alloc HB.out _) (Nat.le_refl _)).src
 case a2 => obtain ⟨_, _, _, _, _, h, _⟩ := HX.out; exact h
 case a3 => obtain ⟨_, _, _, _, h, _⟩ := HX.out; simpa using h
 case a4 => simp
 case a5 =>
  intro v' w' h1 h2 h3
  have HO := Lib.hid h1
  have HG := Lib.hid h2
  clear h1 h2 h3
  go_wp2
  go_ret
  exact ⟨_, rfl, by simpa using HO.out, (box_below' w _).grown HG.out (by simp) (fun k hk => by simp [Value.ownBlock] at hk; omega)⟩
end Go.Proofs.Yteiaeaciaglmgaa
set_option linter.unusedVariables false
set_option linter.unusedSimpArgs false
namespace Go.Proofs.Yteiaeaciaglmgaa
open Go.RowKit
section
variable {F : Fence} {n : Nat} {P : Program} {ops : Array Oper} {Q : Exit → Act → World → Prop}
def InvStepIn (F : Fence) (n : Nat) (P : Program) (ops : Array Oper) (Q : Exit → Act → World → Prop) (I : (Nat → Bool) → Act → World → Prop) (i : Nat) (o : Oper) : Prop :=
 ∀ (L : Nat → Bool) (a : Act) (w : World), L i = false → allOn L (depsOf o) → I L a w →
  ∀ K : Act → World → Prop, Shut (∀ a' w', I (upd L i) a' w' → K a' w') → if Region.wanted o (yielded ops a.tmps) = true then Oper.wpIn F n P o a w K Q else (∀ f, o.about P w a.eval = some f → F.fn f) ∧ K (a.put o.dst undef) w
def InvStepsIn (F : Fence) (n : Nat) (P : Program) (ops : Array Oper) (Q : Exit → Act → World → Prop) (I : (Nat → Bool) → Act → World → Prop) : Nat → List Oper → Prop
 | _, [] => True
 | k, o :: r => InvStepIn F n P ops Q I k o ∧ InvStepsIn F n P ops Q I (k + 1) r
theorem InvStepsIn.at {I : (Nat → Bool) → Act → World → Prop} : ∀ {l : List Oper} {k : Nat}, InvStepsIn F n P ops Q I k l → ∀ {i : Nat} {o : Oper}, l[i]? = some o → InvStepIn F n P ops Q I (k + i) o
 | [], _, _, i, o, ho => by simp at ho
 | o' :: r, k, h, 0, o, ho => by
  simp at ho
  subst ho
  exact h.1
 | o' :: r, k, h, i + 1, o, ho => by
  have := InvStepsIn.at h.2 (i := i) (o := o) (by simpa using ho)
  rw [show k + (i + 1) = k + 1 + i by omega]
  exact this
theorem wpAnyIn_inv {l : List Oper} (hb : backB 0 l = true) {I : (Nat → Bool) → Act → World → Prop} (hs : InvStepsIn F n P l.toArray Q I 0 l)
  (he : ∀ (L : Nat → Bool) a w, (∀ i, i < l.length → L i = true) → I L a w → Q .normal a w) :
  ∀ (fuel : Nat) (listed : Array Bool) (a : Act) (w : World), listed.size = l.length → leftN (fun j => listed.getD j false) l.length ≤ fuel → I (fun j => listed.getD j false) a w →
   wpAnyIn F n P .any l.toArray Q fuel listed a w := by
 have hfull : ∀ (listed : Array Bool), listed.size = l.length → Region.ready .any l.toArray listed = [] → ∀ n, n ≤ l.length → ∀ i, i < n → listed.getD i false = true := by
  intro listed hz hr n
  induction n with
  | zero => intro _ i hi; omega
  | succ n ih =>
   intro hn i hi
   rcases Nat.lt_or_ge i n with h1 | h1
   ·exact ih (by omega) i h1
   ·obtain rfl : i = n := by omega
    by_cases hh : listed.getD i false = true
    ·exact hh
    ·exfalso
     have hmem : i ∈ Region.ready .any l.toArray listed := by
      unfold Region.ready
      refine List.mem_filter.2 ⟨by simp; omega, ?_⟩
      have e1 : listed.getD i true = false := by
       have : i < listed.size := by omega
       simp [Array.getD_eq_getD_getElem?, this] at hh ⊢
       exact hh
      have hlt : i < l.length := by omega
      have e2 : l.toArray[i]? = some l[i] := by simp
      rw [e1, e2]
      simp only [Bool.not_false, Bool.true_and, Option.map_some, Option.getD_some]
      rw [Array.all_eq_true_iff_forall_mem]
      intro e hme
      by_cases hbd : Region.binds .any e = true
      ·have : e.on ∈ depsOf l[i] := List.mem_map.2 ⟨e, List.mem_filter.2 ⟨by simpa using hme, hbd⟩, rfl⟩
       have h2 := backB_at hb (i := i) (o := l[i]) (by simp) _ this
       simp [ih (by omega) e.on (by omega)]
      ·simp [hbd]
     rw [hr] at hmem
     cases hmem
 intro fuel
 induction fuel with
 | zero =>
  intro listed a w hz hl hI
  have hall := leftN_zero _ (Nat.le_zero.1 hl)
  refine ⟨?_, he _ a w hall hI⟩
  refine List.eq_nil_iff_forall_not_mem.2 fun i hi => ?_
  unfold Region.ready at hi
  obtain ⟨h1, h2⟩ := List.mem_filter.1 hi
  have hlt : i < l.length := by simpa using h1
  have h3 := hall i hlt
  have : i < listed.size := by omega
  simp [Array.getD_eq_getD_getElem?, this] at h3 h2
  rw [h3] at h2
  exact absurd h2.1 (by simp)
 | succ fuel ih =>
  intro listed a w hz hl hI
  refine ⟨fun hr => he _ a w (hfull listed hz hr l.length (Nat.le_refl _)) hI, fun i hi => ?_⟩
  have hi' := hi
  unfold Region.ready at hi'
  obtain ⟨h1, h2⟩ := List.mem_filter.1 hi'
  have hlt : i < l.length := by simpa using h1
  have hlz : i < listed.size := by omega
  have e2 : l.toArray[i]? = some l[i] := by simp
  rw [e2] at h2
  simp only [Option.map_some, Option.getD_some, Bool.and_eq_true] at h2
  have hL : listed.getD i false = false := by
   have := h2.1
   simp [Array.getD_eq_getD_getElem?, hlz] at this ⊢
   exact this
  have hdeps : allOn (fun j => listed.getD j false) (depsOf l[i]) := allOn_mem fun d hd => by
   obtain ⟨e, he1, rfl⟩ := List.mem_map.1 hd
   obtain ⟨he2, he3⟩ := List.mem_filter.1 he1
   have := (Array.all_eq_true_iff_forall_mem.1 h2.2) e (by simpa using he2)
   simpa [he3] using this
  have hstep := InvStepsIn.at hs (i := i) (o := l[i]) (by simp)
  rw [Nat.zero_add] at hstep
  refine wpOpIn_step e2 fun K' hK => ?_
  refine hstep _ a w hL hdeps hI K' ?_
  intro a' w' hI'
  refine hK a' w' (ih _ a' w' (by simp [hz]) ?_ ?_)
  ·rw [upd_listed hlz]
   have := leftN_upd (L := fun j => listed.getD j false) hL l.length hlt
   omega
  ·rw [upd_listed hlz]; exact hI'
/-- a region whose order is drawn, by an invariant -/
theorem wpIn_region_inv {id : Nat} {l : List Oper} {a : Act} {w : World} (I : Act → (Nat → Bool) → Act → World → Prop) (hm : P.follows .mixedOrders = true) (hb : backB 0 l = true)
  (h0 : I a (fun _ => false) a w.drew) (hs : InvStepsIn F n P l.toArray Q (I a) 0 l) (he : ∀ (L : Nat → Bool) a' w', (∀ i, i < l.length → L i = true) → I a L a' w' → Q .normal a' w') : (Code.region id l.toArray true).wpIn F n P Q a w := by
 refine wpIn_region_any hm ?_
 have hfun : (fun j => (Array.replicate l.toArray.size false).getD j false) = fun _ => false := by
  funext j
  simp [Array.getD_eq_getD_getElem?, Array.getElem?_replicate]
  by_cases h : j < l.length <;> simp [h]
 have hle : ∀ n, leftN (fun _ => false) n ≤ n := by
  intro n
  induction n with
  | zero => simp [leftN]
  | succ n ih => simp [leftN]; exact ih
 refine wpAnyIn_inv hb hs he _ _ _ _ (by simp) ?_ ?_
 ·rw [hfun]; simpa using hle l.length
 ·rw [hfun]; exact h0
end
section
variable {F : Fence} {n : Nat} {P : Program} {ops : Array Oper} {Q : Exit → Act → World → Prop}
def VStepIn (F : Fence) (n : Nat) (P : Program) (ops : Array Oper) (Q : Exit → Act → World → Prop) (ds : List (Option Nat)) (a0 : Act) (J : (Nat → Bool) → World → (Nat → Value) → Prop) (i : Nat) (o : Oper) : Prop :=
 ∀ (L : Nat → Bool) (a' : Act) (w' : World) (xs : Nat → Value), L i = false → allOn L (depsOf o) → FrameV a0 ds L xs a' → J L w' xs →
  ∀ K : Act → World → Prop, Shut (∀ v w'', J (upd L i) w'' (updV xs i v) → K (a'.put o.dst v) w'') → if Region.wanted o (yielded ops a'.tmps) = true then Oper.wpIn F n P o a' w' K Q else (∀ f, o.about P w' a'.eval = some f → F.fn f) ∧ K (a'.put o.dst undef) w'
def VStepsIn (F : Fence) (n : Nat) (P : Program) (ops : Array Oper) (Q : Exit → Act → World → Prop) (ds : List (Option Nat)) (a0 : Act) (J : (Nat → Bool) → World → (Nat → Value) → Prop) : Nat → List Oper → Prop
 | _, [] => True
 | k, o :: r => VStepIn F n P ops Q ds a0 J k o ∧ VStepsIn F n P ops Q ds a0 J (k + 1) r
theorem VStepsIn.inv {ds : List (Option Nat)} {a0 : Act} {J : (Nat → Bool) → World → (Nat → Value) → Prop} (hi : dsInj ds = true) (hn : dsBd a0.tmps.size ds = true) : ∀ {l : List Oper} {k : Nat}, (∀ i o, l[i]? = some o → ds[k + i]? = some o.dst) → VStepsIn F n P ops Q ds a0 J k l →
  InvStepsIn F n P ops Q (fun L a' w' => ∃ xs, FrameV a0 ds L xs a' ∧ J L w' xs) k l
 | [], _, _, _ => trivial
 | o :: r, k, hd, h => by
  refine ⟨?_, VStepsIn.inv hi hn (fun i o' ho => ?_) h.2⟩
  ·intro L a' w' hL hdep hI K hK
   obtain ⟨xs, hf, hJ⟩ := hI
   exact h.1 L a' w' xs hL hdep hf hJ K (show ∀ v w'', J (upd L k) w'' (updV xs k v) → K (a'.put o.dst v) w'' from fun v w'' hJ' => hK.out _ _ ⟨_, hf.put hi hn (by simpa using hd 0 o rfl) v, hJ'⟩)
  ·have := hd (i + 1) o' (by simpa using ho)
   rw [show k + 1 + i = k + (i + 1) by omega]
   exact this
/-- a region whose order is drawn, by what its slots hold -/
theorem wpIn_region_V {id : Nat} {l : List Oper} {a : Act} {w : World} (ds : List (Option Nat)) (J : (Nat → Bool) → World → (Nat → Value) → Prop) (hm : P.follows .mixedOrders = true) (hb : backB 0 l = true) (hds : l.map (·.dst) = ds) (hi : dsInj ds = true) (hn : dsBd a.tmps.size ds = true)
  (h0 : ∀ xs, J (fun _ => false) w.drew xs) (hs : VStepsIn F n P l.toArray Q ds a J 0 l) (he : ∀ (L : Nat → Bool) w' xs, (∀ i, i < ds.length → L i = true) → J L w' xs → Q .normal (putGo xs 0 ds a) w') : (Code.region id l.toArray true).wpIn F n P Q a w := by
 have hlen : ds.length = l.length := by rw [← hds]; simp
 refine wpIn_region_inv (fun a0 L a' w' => ∃ xs, FrameV a0 ds L xs a' ∧ J L w' xs) hm hb ⟨fun _ => undef, FrameV.start _ _ _, h0 _⟩ (VStepsIn.inv hi hn (fun i o ho => ?_) hs) ?_
 ·rw [← hds, Nat.zero_add, List.getElem?_map, ho]; rfl
 ·rintro L a' w' hL ⟨xs, hf, hJ⟩
  rw [hf.final hi hn (fun i h => hL i (by omega))]
  exact he L w' xs (fun i h => hL i (by omega)) hJ
end
end Go.Proofs.Yteiaeaciaglmgaa
set_option linter.unusedVariables false
set_option linter.unusedSimpArgs false
set_option linter.unusedVariables false
set_option linter.unusedSimpArgs false
namespace Go.Proofs.Yteiaeaciaglmgaa
open Go.RowKit
set_option maxHeartbeats 2000000 in
/-- slices.Equal -/
theorem equal_any (B B' : Nat) (w : World) (v v' : Value) (xs ys : List Int) (hv : IsInts B w v xs) (hv' : IsInts B' w v' ys) :
  Calls Try.prog 38 #[v, v'] w fun e w' => e = .returned (.bool (sameB xs ys)) ∧ Drew w w' := by
 obtain ⟨b, off, cap, ⟨a, rfl, hcap, hmax, ha⟩, hlen, hz, hc⟩ := hv
 obtain ⟨b', off', cap', ⟨a', rfl, hcap', hmax', ha'⟩, hlen', hz', hc'⟩ := hv'
 by_cases hl : xs.length = ys.length
 ·have HL := Lib.hid hl
  have hne2 : ((xs.length : Int) != (ys.length : Int)) = false := by rw [hl]; simp
  clear hl
  go_enter Try.func38, Try.ntmps38
  go_wp2
  go_loopw [13] (fun i wr => ∃ k : Nat, k ≤ xs.length ∧ i = .int .i64 k ∧ sameB (xs.take k) (ys.take k) = true ∧ Drew w wr) (fun i _ => xs.length - (intOf i).toNat)
  case atStart => exact ⟨0, by omega, rfl, rfl, Drew.refl _⟩
  case round =>
   obtain ⟨k, hk, rfl, hno, hd⟩ := hrel
   have HN := Lib.hid hno
   have HD := Lib.hid hd
   clear hno hd
   by_cases hlt : k < xs.length
   ·have hlt' : k < ys.length := by rw [← HL.out]; exact hlt
    obtain rfl : a = some ⟨b, off, none⟩ := by rcases ha with ha | ha; exact ha; omega
    obtain rfl : a' = some ⟨b', off', none⟩ := by rcases ha' with ha | ha; exact ha; omega
    have hcell := (HD.out.cell _).trans (hc k hlt).2
    have hcell' := (HD.out.cell _).trans (hc' k hlt').2
    clear ha ha' hc hc'
    go_wp2
    go_quiet (fail)
    by_cases he : nth xs k = nth ys k
    ·have HT := Lib.hid (sameB_succ HN.out hlt hlt' he)
     have he' : (nth xs k != nth ys k) = false := by simpa using he
     clear he
     go_wp2
     go_roundw
     case rel => exact ⟨k + 1, by omega, by go_num, HT.out, HD.out.drewN _⟩
     case measure => simp [intOf]; omega
    ·have HT := Lib.hid (sameB_not hlt hlt' he)
     have he' : (nth xs k != nth ys k) = true := by simpa using he
     clear he
     go_wp2
     go_ret
     exact ⟨by rw [HT.out]; rfl, HD.out.drewN _⟩
   ·have HT := Lib.hid (sameB_all HN.out (by omega) (by have := HL.out; omega))
    clear hc hc'
    go_wp2
    go_ret
    exact ⟨by rw [HT.out]; rfl, HD.out⟩
 ·have HT := Lib.hid (sameB_len hl)
  have hne2 : ((xs.length : Int) != (ys.length : Int)) = true := by simp; omega
  clear hl hc hc'
  go_enter Try.func38, Try.ntmps38
  go_wp2
  go_ret
  exact ⟨by rw [HT.out]; rfl, Drew.refl _⟩
end Go.Proofs.Yteiaeaciaglmgaa
set_option linter.unusedVariables false
set_option linter.unusedSimpArgs false
set_option linter.unusedVariables false
set_option linter.unusedSimpArgs false
set_option linter.unusedVariables false
set_option linter.unusedSimpArgs false
set_option linter.unusedVariables false
set_option linter.unusedSimpArgs false
namespace Go.Proofs.Yteiaeaciaglmgaa
open Go.RowKit
theorem grown_cell {w w' : World} {b : Option Nat} (h : w.grownBy w' b) {g j : Nat} (hg : g < w.heap.size) (hne : b ≠ some g) : w'.cell? ⟨g, j, none⟩ = w.cell? ⟨g, j, none⟩ := by
 have e := h.5 g hg (fun e => hne (by rw [← e]))
 simp only [World.cell?, e]
end Go.Proofs.Yteiaeaciaglmgaa
set_option linter.unusedVariables false
set_option linter.unusedSimpArgs false
namespace Go.Proofs.Yteiaeaciaglmgaa
open Go.RowKit Go.MapKept
theorem findDel_ints : ∀ (es : List MapEntry) (l : AL) (i : Nat) (x : Int), es.map (fun e => (e.key, e.val)) = l.map (fun p => (Value.int .i64 p.1, p.2)) →
  (adel l x = l ∧ Instr.findNow (.int .i64) (.int .i64 x) es i = some none) ∨
  ∃ j v, Instr.findNow (.int .i64) (.int .i64 x) es i = some (some (i + j, v)) ∧ j < es.length ∧ (es.eraseIdx j).map (fun e => (e.key, e.val)) = (adel l x).map (fun p => (Value.int .i64 p.1, p.2))
 | [], [], i, x, _ => Or.inl ⟨rfl, rfl⟩
 | [], p :: l, i, x, h => by simp at h
 | e :: es, [], i, x, h => by simp at h
 | e :: es, (k, v) :: l, i, x, h => by
  simp only [List.map_cons, List.cons.injEq, Prod.mk.injEq] at h
  obtain ⟨⟨hk, hv⟩, ht⟩ := h
  by_cases hx : k = x
  ·subst hx
   refine Or.inr ⟨0, v, ?_, by simp, ?_⟩
   ·simp [Instr.findNow, Instr.sameNow, hk, hv]
   ·simp [adel, ht]
  ·have hsame : Instr.sameNow (.int .i64) (.int .i64 x) e.key = some false := by
    rw [hk]; simp [Instr.sameNow]; intro h'; exact hx h'.symm
   rcases findDel_ints es l (i + 1) x ht with ⟨h1, h2⟩ | ⟨j, u, h2, h3, h4⟩
   ·exact Or.inl ⟨by simp only [adel]; rw [if_neg hx, h1], by simp [Instr.findNow, hsame, h2]⟩
   ·refine Or.inr ⟨j + 1, u, by simp [Instr.findNow, hsame, h2]; omega, by simpa using h3, ?_⟩
    simp only [List.eraseIdx_cons_succ, List.map_cons, h4, adel, if_neg hx, hk, hv]
section
variable {P : Program} {w : World} {T K : TypeId} {E : TypeId} {r : Nat} {l : AL}
theorem run_delete_ints (hT : P.underlying T = some (.map K E)) (hK : P.underlying K = some (.int .i64)) (h : IntMap w r l) (x : Int) (ty : TypeId) :
  ∃ w', (Builtin.delete_ #[T, K] ty #[.map (some r), .int .i64 x]).run P w = .ok (.tuple #[]) w' ∧ IntMap w' r (adel l x) ∧ w.grownBy w' (some r) ∧ w'.heap.size = w.heap.size := by
 obtain ⟨es, c, h1, h2, h3⟩ := h
 have hk : IsKey (.int .i64) (.int .i64 x) := rfl
 have hck : (Instr.checkKey es.isEmpty 10000 K (.int .i64 x)).run P w = .ok () w := run_checkKey hK hk es.isEmpty 9999
 have hg : (getObj r).run P w = .ok (.map es c) w := MapKept.run_getObj_map h1
 have keep : ∀ o : Obj, w.grownBy { w with heap := w.heap.setIfInBounds r o } (some r) := fun o =>
  ⟨rfl, rfl, rfl, by simp, fun k hk' hne => by simp only [Array.getElem?_setIfInBounds]; rw [if_neg (fun e => hne (by rw [e]))]⟩
 unfold Builtin.delete_
 rcases findDel_ints es.toList l 0 x h3 with ⟨q1, q2⟩ | ⟨j, u, q2, q3, q4⟩
 ·have hf := run_findKey (P := P) (w := w) hK q2
  have hset := run_setObj_map (P := P) (.map es c) h1
  refine ⟨_, by simp [run_underlying hT, Result.andThen, hg, hck, hf, hset], ⟨_, _, (heap_set h1).1, h2, by rw [q1]; exact h3⟩, keep _, by simp⟩
 ·have hf := run_findKey (P := P) (w := w) hK q2
  simp only [Nat.zero_add] at hf
  have hset := run_setObj_map (P := P) (.map (es.eraseIdxIfInBounds j) c) h1
  refine ⟨_, by simp [run_underlying hT, Result.andThen, hg, hck, hf, hset]; rfl, ⟨_, _, (heap_set h1).1, stamped_erase h2 _, ?_⟩, keep _, by simp⟩
  have e : (es.eraseIdxIfInBounds j).toList = es.toList.eraseIdx j := by
   unfold Array.eraseIdxIfInBounds
   rw [dif_pos (by simpa using q3)]
   simp
  rw [e]
  exact q4
/-- the operation delete(m, x) -/
theorem wpList_delete_ints {ops : Array Oper} {rest : List Oper} {o : Oper} {a : Act} {Q : Exit → Act → World → Prop} (hg : Region.wanted o (yielded ops a.tmps) = true) (m xo : Operand)
  (hop : o.op = Op.call { callee := Callee.builtin Builtin.delete, args := #[m, xo], argTypes := #[T, K] })
  (hT : P.underlying T = some (.map K E)) (hK : P.underlying K = some (.int .i64)) (hm : a.eval m = .map (some r)) (h : IntMap w r l) {x : Int} (hx : a.eval xo = .int .i64 x)
  (hk : ∀ w', IntMap w' r (adel l x) → w.grownBy w' (some r) → w'.heap.size = w.heap.size → wpList P ops Q rest (a.put o.dst (.tuple #[])) w') : wpList P ops Q (o :: rest) a w := by
 refine wpList_want hg fun K' hK' => ?_
 obtain ⟨w', hrun, h1, h2, h3⟩ := run_delete_ints hT hK h x o.type
 unfold Oper.wp
 simp [execOp, hop, resolve, invoke, builtin, hm, hx, hrun, Result.andThen]
 exact hK' _ _ (hk w' h1 h2 h3)
/-- the operations of a region, one at a time -/
theorem wp_lookup_ints {o : Oper} {a : Act} {K' : Act → World → Prop} {Q : Exit → Act → World → Prop} (m xo : Operand) (hop : o.op = Op.lookup T m xo false)
  (hT : P.underlying T = some (.map K E)) (hK : P.underlying K = some (.int .i64)) {z : Value} (hz : (zeroValue E).run P w = .ok z w) (hm : a.eval m = .map (some r)) (h : IntMap w r l) {x : Int} (hx : a.eval xo = .int .i64 x) {v : Value} (hv : alook l x = some v)
  (hk : K' (a.put o.dst v) w) : o.wp P a w K' Q := by
 unfold Oper.wp
 simp only [execOp, hop, hm, hx]
 simp [run_lookup_ints hT hK hz h x false, Result.andThen, hv]
 exact hk
theorem wp_update_ints {o : Oper} {a : Act} {K' : Act → World → Prop} {Q : Exit → Act → World → Prop} (m xo vo : Operand) (hop : o.op = Op.mapUpdate T m xo vo)
  (hT : P.underlying T = some (.map K E)) (hK : P.underlying K = some (.int .i64)) (hm : a.eval m = .map (some r)) (h : IntMap w r l) {x : Int} {v : Value} (hx : a.eval xo = .int .i64 x) (hv : a.eval vo = v)
  (hk : ∀ w', IntMap w' r (aset l x v) → w.grownBy w' (some r) → w'.heap.size = w.heap.size → K' (a.put o.dst undef) w') : o.wp P a w K' Q := by
 obtain ⟨w', hrun, h1, h2, h3⟩ := run_update_ints hT hK h x v
 unfold Oper.wp
 simp only [execOp, hop, hm, hx, hv]
 simp [hrun, Result.andThen]
 exact hk w' h1 h2 h3
theorem wpList_next_moreA {ops : Array Oper} {rest : List Oper} {o : Oper} {a : Act} {Q : Exit → Act → World → Prop} {bm r : Nat} {l left : AL} (hg : Region.wanted o (yielded ops a.tmps) = true) (it : Operand) (hop : o.op = Op.next it false) (hit : a.eval it = .pointer (some ⟨r, 0, none⟩)) (h : MapIter w bm r l left) (hne : r ≠ bm) (he : left ≠ [])
  (hk : ∀ (A : AL) (x : Int) (v : Value) (B : AL) (w' : World), left = A ++ (x, v) :: B → MapIter w' bm r l (A ++ B) → w.grownBy w' (some r) → w'.heap.size = w.heap.size →
   (Instr.entry (.pointer (some ⟨r, 0, none⟩))).run P w' = .ok (.tuple #[.int .i64 x, v]) w' → wpList P ops Q rest (a.put o.dst (.tuple #[.bool true, .int .i64 x, v])) w') : wpList P ops Q (o :: rest) a w :=
 wpList_next_ints hg it hop hit h hne (fun e => absurd e he) hk
theorem wpList_next_doneA {ops : Array Oper} {rest : List Oper} {o : Oper} {a : Act} {Q : Exit → Act → World → Prop} {bm r : Nat} {l left : AL} (hg : Region.wanted o (yielded ops a.tmps) = true) (it : Operand) (hop : o.op = Op.next it false) (hit : a.eval it = .pointer (some ⟨r, 0, none⟩)) (h : MapIter w bm r l left) (hne : r ≠ bm) (he : left = [])
  (hk : wpList P ops Q rest (a.put o.dst (.tuple #[.bool false])) w) : wpList P ops Q (o :: rest) a w :=
 wpList_next_ints hg it hop hit h hne (fun _ => hk) (fun A x v B w' e => by rw [he] at e; simp at e)
end
theorem aset_fresh {l : AL} {x : Int} (h : x ∉ l.map (·.1)) (v : Value) : aset l x v = l ++ [(x, v)] := by
 induction l with
 | nil => rfl
 | cons p r ih =>
  obtain ⟨k, u⟩ := p
  simp only [List.map_cons, List.mem_cons, not_or] at h
  simp only [aset]
  rw [if_neg (fun e => h.1 e.symm), ih h.2]
  rfl
theorem mem_adel {l : AL} (hn : (l.map (·.1)).Nodup) {x y : Int} {v : Value} : (y, v) ∈ adel l x ↔ (y, v) ∈ l ∧ y ≠ x := by
 induction l with
 | nil => simp [adel]
 | cons p r ih =>
  obtain ⟨k, u⟩ := p
  simp only [List.map_cons, List.nodup_cons] at hn
  simp only [adel]
  by_cases hk : k = x
  ·subst hk
   rw [if_pos rfl]
   constructor
   ·intro h
    exact ⟨List.mem_cons_of_mem _ h, fun e => hn.1 (by rw [← e]; exact List.mem_map.2 ⟨_, h, rfl⟩)⟩
   ·rintro ⟨h, hne⟩
    rcases List.mem_cons.1 h with e | h
    ·simp only [Prod.mk.injEq] at e; exact absurd e.1 hne
    ·exact h
  ·rw [if_neg hk, List.mem_cons, List.mem_cons, ih hn.2]
   constructor
   ·rintro (e | ⟨h, hne⟩)
    ·simp only [Prod.mk.injEq] at e; exact ⟨.inl (by rw [e.1, e.2]), by rw [e.1]; exact hk⟩
    ·exact ⟨.inr h, hne⟩
   ·rintro ⟨e | h, hne⟩
    ·exact .inl e
    ·exact .inr ⟨h, hne⟩
theorem nodup_adel {l : AL} (hn : (l.map (·.1)).Nodup) (x : Int) : ((adel l x).map (·.1)).Nodup := by
 have hs : (adel l x).Sublist l := by
  clear hn
  induction l with
  | nil => exact List.Sublist.refl _
  | cons p r ih =>
   obtain ⟨k, u⟩ := p
   simp only [adel]
   by_cases hk : k = x
   ·rw [if_pos hk]; exact List.sublist_cons_self _ _
   ·rw [if_neg hk]; exact List.Sublist.cons_cons _ ih
 exact List.Nodup.sublist (hs.map _) hn
theorem alook_mem {l : AL} (hn : (l.map (·.1)).Nodup) {x : Int} {v : Value} (h : (x, v) ∈ l) : alook l x = some v := by
 induction l with
 | nil => cases h
 | cons p r ih =>
  obtain ⟨k, u⟩ := p
  simp only [List.map_cons, List.nodup_cons] at hn
  simp only [alook]
  rcases List.mem_cons.1 h with e | h
  ·simp only [Prod.mk.injEq] at e
   rw [if_pos e.1.symm, e.2]
  ·rw [if_neg (fun e => hn.1 (by rw [e]; exact List.mem_map.2 ⟨_, h, rfl⟩))]
   exact ih hn.2 h
/-- the map l holds just the senders below n, each one at its spot -/
def Sat (n : Nat) (P : Nat → Int) (l : AL) : Prop := (l.map (·.1)).Nodup ∧ ∀ x v, (x, v) ∈ l ↔ ∃ s, s < n ∧ P s = x ∧ v = .int .i64 (s : Int)
theorem Sat.nil (P : Nat → Int) : Sat 0 P [] := ⟨List.nodup_nil, fun x v => by simp⟩
theorem Sat.eq {n : Nat} {P P' : Nat → Int} {l : AL} (h : Sat n P l) (he : ∀ s, s < n → P s = P' s) : Sat n P' l :=
 ⟨h.1, fun x v => by rw [h.2]; exact ⟨fun ⟨s, a, b, c⟩ => ⟨s, a, by rw [← he s a]; exact b, c⟩, fun ⟨s, a, b, c⟩ => ⟨s, a, by rw [he s a]; exact b, c⟩⟩⟩
theorem Sat.key {n : Nat} {P : Nat → Int} {l : AL} (h : Sat n P l) {x : Int} : x ∈ l.map (·.1) ↔ ∃ s, s < n ∧ P s = x := by
 constructor
 ·intro hx
  obtain ⟨⟨y, v⟩, hm, rfl⟩ := List.mem_map.1 hx
  obtain ⟨s, a, b, _⟩ := (h.2 _ _).1 hm
  exact ⟨s, a, b⟩
 ·rintro ⟨s, a, b⟩
  exact List.mem_map.2 ⟨_, (h.2 x _).2 ⟨s, a, b, rfl⟩, rfl⟩
theorem Sat.look {n : Nat} {P : Nat → Int} {l : AL} (h : Sat n P l) {s : Nat} (hs : s < n) : alook l (P s) = some (.int .i64 (s : Int)) := alook_mem h.1 ((h.2 _ _).2 ⟨s, hs, rfl, rfl⟩)
theorem Sat.inj {n : Nat} {P : Nat → Int} {l : AL} (h : Sat n P l) {s t : Nat} (hs : s < n) (ht : t < n) (e : P s = P t) : s = t := by
 have h1 := h.look hs
 rw [e, h.look ht] at h1
 simp at h1
 omega
theorem Sat.more {n : Nat} {P : Nat → Int} {l : AL} (h : Sat n P l) (hf : ∀ s, s < n → P s ≠ P n) : Sat (n + 1) P (aset l (P n) (.int .i64 (n : Int))) := by
 have hx : P n ∉ l.map (·.1) := fun hx => by obtain ⟨s, a, b⟩ := h.key.1 hx; exact hf s a b
 refine ⟨nodup_aset h.1 _ _, fun x v => ?_⟩
 rw [aset_fresh hx, List.mem_append, h.2]
 constructor
 ·rintro (⟨s, a, b, c⟩ | e)
  ·exact ⟨s, by omega, b, c⟩
  ·have := List.mem_singleton.1 e
   simp only [Prod.mk.injEq] at this
   exact ⟨n, by omega, this.1.symm, this.2⟩
 ·rintro ⟨s, a, b, c⟩
  by_cases e : s = n
  ·subst e; exact .inr (by simp [b, c])
  ·exact .inl ⟨s, by omega, b, c⟩
theorem Sat.move {n : Nat} {P P' : Nat → Int} {l : AL} {t : Nat} {y : Int} (h : Sat n P l) (ht : t < n) (hy : ∀ s, s < n → P s ≠ y) (hp : ∀ s, s < n → P' s = if s = t then y else P s) :
  Sat n P' (adel (aset l y (.int .i64 (t : Int))) (P t)) := by
 have hx : y ∉ l.map (·.1) := fun hx => by obtain ⟨s, a, b⟩ := h.key.1 hx; exact hy s a b
 have hn := nodup_aset h.1 y (.int .i64 (t : Int))
 refine ⟨nodup_adel hn _, fun x v => ?_⟩
 rw [mem_adel hn, aset_fresh hx, List.mem_append, h.2]
 constructor
 ·rintro ⟨⟨s, a, b, c⟩ | e, hne⟩
  ·have hst : s ≠ t := fun e => hne (by rw [← b, e])
   exact ⟨s, a, by rw [hp s a, if_neg hst]; exact b, c⟩
  ·have := List.mem_singleton.1 e
   simp only [Prod.mk.injEq] at this
   exact ⟨t, ht, by rw [hp t ht, if_pos rfl]; exact this.1.symm, this.2⟩
 ·rintro ⟨s, a, b, c⟩
  rw [hp s a] at b
  by_cases e : s = t
  ·subst e
   rw [if_pos rfl] at b
   subst b
   exact ⟨.inr (by simp [c]), fun e => hy s ht e.symm⟩
  ·rw [if_neg e] at b
   exact ⟨.inl ⟨s, a, b, c⟩, fun e' => e (h.inj a ht (by rw [b, e']))⟩
end Go.Proofs.Yteiaeaciaglmgaa
set_option linter.unusedVariables false
set_option linter.unusedSimpArgs false
namespace Go.Proofs.Yteiaeaciaglmgaa
/-- behind the first i spots of lot k -/
def inLot (f : Flow) (k i s : Nat) : Int := mvI ((lotAt f.lots k).ins.take i) (lotAt f.lots k).perm (beforeI f k) (spotAt f (s : Int) k)
theorem inLot_zero (f : Flow) (k s : Nat) : inLot f k 0 s = spotAt f (s : Int) k := by unfold inLot mvI hasB; simp
theorem inLot_end (f : Flow) (k s : Nat) : inLot f k (lotAt f.lots k).ins.length s = spotAt f (s : Int) (k + 1) := by unfold inLot; rw [List.take_length]; rfl
theorem spot_asg {f : Flow} (h0 : 0 ≤ f.senders) {k : Nat} (hl : lotsB f k = true) (hk : ∀ j, j < k → (lotAt f.lots j).known = true) : ∃ p, p.length = f.senders.toNat ∧ AllAt f k p ∧ ∀ s : Nat, s < f.senders.toNat → nth p s = spotAt f (s : Int) k := by
 obtain ⟨p, hp⟩ := List.exists_mem_of_ne_nil _ (asg_ne h0 k hl)
 refine ⟨p, asg_len k p hp, asg_all h0 k hl p hp, fun s hs => (asg_last h0 (show (s : Int) < f.senders by omega) k hl p hp).1 ?_⟩
 by_cases h : 0 ≤ unkTo f (s : Int) k
 ·obtain ⟨j, a, _, c⟩ := unk_is h
  rw [hk j a] at c
  cases c
 ·omega
theorem idx_take {l : List Int} (hn : l.Nodup) {i j : Nat} (hj : j < i) (hi : i ≤ l.length) : (l.take i).idxOf (nth l j) = j ∧ hasB (l.take i) (nth l j) = true := by
 have hjl : j < (l.take i).length := by rw [List.length_take]; omega
 have e : nth l j = (l.take i)[j] := by
  rw [List.getElem_take]
  exact nth_lt (by omega)
 rw [e]
 exact ⟨List.Nodup.idxOf_getElem (List.Nodup.sublist (List.take_sublist _ _) hn) j hjl, hasB_mem.2 (List.getElem_mem _)⟩
theorem take_no {l : List Int} (hn : l.Nodup) {i j : Nat} (hj : i ≤ j) (hi : j < l.length) : hasB (l.take i) (nth l j) = false := by
 cases h : hasB (l.take i) (nth l j) with
 | false => rfl
 | true =>
  obtain ⟨m, hm, e⟩ := List.mem_iff_getElem.1 (hasB_mem.1 h)
  rw [List.length_take] at hm
  rw [List.getElem_take] at e
  have e2 : nth l m = nth l j := by rw [nth_lt (by omega)]; exact e
  have := nth_injC hn (by omega) hi e2
  omega
theorem spot_before {f : Flow} {k : Nat} (h0 : 0 ≤ f.senders) (hl : lotsB f k = true) (hk : ∀ j, j < k + 1 → (lotAt f.lots j).known = true) {s : Nat} (hs : s < f.senders.toNat) : spotAt f (s : Int) k < beforeI f k := by
 obtain ⟨p, h1, h2, h3⟩ := spot_asg h0 hl (fun j hj => hk j (by omega))
 rw [← h3 s hs]
 exact ((h2.2 _).1 (nth_mem' (by omega))).2.1
theorem perm_at {f : Flow} {k : Nat} (hb : lotB f k = true) (hk : ∀ j, j < k + 1 → (lotAt f.lots j).known = true) {i : Nat} (hi : i < (lotAt f.lots k).ins.length) : 0 ≤ nth (lotAt f.lots k).perm i ∧ nth (lotAt f.lots k).perm i < (lotAt f.lots k).ins.length ∧ (lotAt f.lots k).perm.length = (lotAt f.lots k).ins.length ∧ (lotAt f.lots k).perm.Nodup := by
 obtain ⟨q1, q2, q3, q4, _⟩ := lotB_parts hb
 have hp := permB_parts (q4 (hk k (by omega)))
 have := hp.1 _ (nth_mem' (show i < (lotAt f.lots k).perm.length by omega))
 exact ⟨this.1, this.2, hp.2.1, hp.2.2⟩
section
variable {f : Flow} {k : Nat} (h0 : 0 ≤ f.senders) (hl : lotsB f k = true) (hb : lotB f k = true) (hk : ∀ j, j < k + 1 → (lotAt f.lots j).known = true)
include h0 hl hb hk
theorem inLot_at {i : Nat} (hi : i < (lotAt f.lots k).ins.length) : ∃ t, t < f.senders.toNat ∧ inLot f k i t = nth (lotAt f.lots k).ins i := by
 obtain ⟨p, h1, h2, h3⟩ := spot_asg h0 hl (fun j hj => hk j (by omega))
 obtain ⟨q1, q2, q3, _⟩ := lotB_parts hb
 obtain ⟨m, hm, e⟩ := List.mem_iff_getElem.1 ((h2.2 _).2 (q3 _ (nth_mem' hi)))
 rw [h1] at hm
 have e' : spotAt f (m : Int) k = nth (lotAt f.lots k).ins i := by rw [← h3 m hm, ← e]; exact nth_lt (by omega)
 refine ⟨m, hm, ?_⟩
 unfold inLot mvI
 rw [e', take_no q2 (Nat.le_refl _) hi, if_neg (by decide)]
/-- one letter goes on, the others stay -/
theorem inLot_step {i t : Nat} (hi : i < (lotAt f.lots k).ins.length) (ht : t < f.senders.toNat) (he : inLot f k i t = nth (lotAt f.lots k).ins i) :
  ∀ s, s < f.senders.toNat → inLot f k (i + 1) s = if s = t then beforeI f k + nth (lotAt f.lots k).perm i else inLot f k i s := by
 obtain ⟨p, h1, h2, h3⟩ := spot_asg h0 hl (fun j hj => hk j (by omega))
 obtain ⟨q1, q2, q3, q4, _⟩ := lotB_parts hb
 have hlt := (q3 _ (nth_mem' hi)).2.1
 have het : spotAt f (t : Int) k = nth (lotAt f.lots k).ins i := by
  unfold inLot mvI at he
  by_cases hh : hasB ((lotAt f.lots k).ins.take i) (spotAt f (t : Int) k) = true
  ·rw [if_pos hh] at he
   obtain ⟨m, hm, e⟩ := List.mem_iff_getElem.1 (hasB_mem.1 hh)
   rw [List.length_take] at hm
   rw [List.getElem_take] at e
   have e2 : spotAt f (t : Int) k = nth (lotAt f.lots k).ins m := by rw [nth_lt (by omega)]; exact e.symm
   rw [e2, (idx_take q2 (show m < i by omega) (by omega)).1] at he
   have := (perm_at hb hk (show m < (lotAt f.lots k).ins.length by omega)).1
   omega
  ·rw [if_neg hh] at he; exact he
 intro s hs
 by_cases e : s = t
 ·subst e
  rw [if_pos rfl]
  unfold inLot mvI
  rw [het, (idx_take q2 (show i < i + 1 by omega) (by omega)).2, if_pos rfl, (idx_take q2 (show i < i + 1 by omega) (by omega)).1]
 ·rw [if_neg e]
  have hne : spotAt f (s : Int) k ≠ nth (lotAt f.lots k).ins i := by
   rw [← het, ← h3 s hs, ← h3 t ht]
   intro e2
   exact e (nth_injC h2.1 (by omega) (by omega) e2)
  unfold inLot mvI
  by_cases hh : hasB ((lotAt f.lots k).ins.take i) (spotAt f (s : Int) k) = true
  ·rw [if_pos hh]
   obtain ⟨m, hm, e⟩ := List.mem_iff_getElem.1 (hasB_mem.1 hh)
   rw [List.length_take] at hm
   rw [List.getElem_take] at e
   have e2 : spotAt f (s : Int) k = nth (lotAt f.lots k).ins m := by rw [nth_lt (by omega)]; exact e.symm
   rw [e2, (idx_take q2 (show m < i by omega) (by omega)).1, (idx_take q2 (show m < i + 1 by omega) (by omega)).2, if_pos rfl, (idx_take q2 (show m < i + 1 by omega) (by omega)).1]
  ·rw [if_neg hh]
   have : ¬ hasB ((lotAt f.lots k).ins.take (i + 1)) (spotAt f (s : Int) k) = true := by
    intro hh'
    rw [List.take_succ_eq_append_getElem hi] at hh'
    rcases List.mem_append.1 (hasB_mem.1 hh') with h | h
    ·exact hh (hasB_mem.2 h)
    ·exact hne (by rw [nth_lt hi]; exact List.mem_singleton.1 h)
   rw [if_neg this]
theorem inLot_fresh {i s : Nat} (hi : i < (lotAt f.lots k).ins.length) (hs : s < f.senders.toNat) : inLot f k i s ≠ beforeI f k + nth (lotAt f.lots k).perm i := by
 obtain ⟨q1, q2, q3, q4, _⟩ := lotB_parts hb
 have hp := perm_at hb hk hi
 have hsb := spot_before h0 hl hk hs
 unfold inLot mvI
 by_cases hh : hasB ((lotAt f.lots k).ins.take i) (spotAt f (s : Int) k) = true
 ·rw [if_pos hh]
  obtain ⟨m, hm, e⟩ := List.mem_iff_getElem.1 (hasB_mem.1 hh)
  rw [List.length_take] at hm
  rw [List.getElem_take] at e
  have e2 : spotAt f (s : Int) k = nth (lotAt f.lots k).ins m := by rw [nth_lt (by omega)]; exact e.symm
  rw [e2, (idx_take q2 (show m < i by omega) (by omega)).1]
  intro e3
  have e4 : nth (lotAt f.lots k).perm m = nth (lotAt f.lots k).perm i := by omega
  have := nth_injC hp.2.2.2 (by omega) (by omega) e4
  omega
 ·rw [if_neg hh]
  omega
end
/-- the spots of the senders fit into a machine word -/
theorem mapL_at {f : Flow} {s : Nat} (hs : s < f.senders.toNat) : nth (mapL f) s = spotAt f (s : Int) f.lots.length := by
 unfold mapL nth
 rw [List.getD_eq_getElem?_getD, List.getElem?_map, List.getElem?_range hs]
 rfl
theorem mapL_len (f : Flow) : (mapL f).length = f.senders.toNat := by simp [mapL]
end Go.Proofs.Yteiaeaciaglmgaa
set_option linter.unusedVariables false
set_option linter.unusedSimpArgs false
set_option linter.unusedVariables false
set_option linter.unusedSimpArgs false
namespace Go.Proofs.Yteiaeaciaglmgaa
theorem knownB_at {f : Flow} (h : knownB f = true) : ∀ j, j < f.lots.length → (lotAt f.lots j).known = true := by
 unfold knownB at h
 exact anyUnk_false (by simpa using h)
theorem known_knownB {f : Flow} (h : ∀ j, j < f.lots.length → (lotAt f.lots j).known = true) : knownB f = true := by
 unfold knownB
 cases hu : anyUnk f.lots f.lots.length with
 | false => rfl
 | true =>
  exfalso
  have : ∀ k, k ≤ f.lots.length → anyUnk f.lots k = false := fun k => by
   induction k with
   | zero => intro _; rfl
   | succ k ih => intro hk; simp only [anyUnk, ih (by omega), h k (by omega)]; rfl
  rw [this _ (Nat.le_refl _)] at hu
  cases hu
end Go.Proofs.Yteiaeaciaglmgaa
set_option linter.unusedVariables false
set_option linter.unusedSimpArgs false
namespace Go.Proofs.Yteiaeaciaglmgaa
open Go.RowKit
def mapE (f : Flow) : Int := if checkE f ≠ 0 then checkE f else if knownB f then 0 else 1
def mapR (f : Flow) : List Int := if mapE f = 0 then mapL f else []
/-- what holds while the map is made: bm: its block, P: where the first n senders are -/
def MapInv (w W : World) (bm : Nat) (fb : Array Value) (n : Nat) (P : Nat → Int) : Prop :=
 Below w.heap.size w W ∧ Box W w.heap.size fb ∧ w.heap.size < bm ∧ ∃ l, IntMap W bm l ∧ Sat n P l
theorem MapInv.ext {w W W' : World} {bm n : Nat} {fb : Array Value} {P : Nat → Int} (h : MapInv w W bm fb n P) (hb : Below W.heap.size W W') : MapInv w W' bm fb n P := by
 obtain ⟨h1, h2, h3, l, h4, h5⟩ := h
 exact ⟨h1.trans (hb.mono h1.size), h2.ext hb, h3, l, h4.ext hb, h5⟩
theorem MapInv.alloc {w W : World} {bm n : Nat} {fb : Array Value} {P : Nat → Int} (h : MapInv w W bm fb n P) (o : Obj) : MapInv w (W.alloc o) bm fb n P := h.ext (box_below' W o)
theorem MapInv.count {w W : World} {bm n bc : Nat} {fb : Array Value} {P : Nat → Int} (h : MapInv w W bm fb n P) (hc : bm < bc) (v : Value) : MapInv w (W.setCell ⟨bc, 0, none⟩ v) bm fb n P := by
 obtain ⟨h1, h2, h3, l, h4, h5⟩ := h
 have hg := grown_setCell W ⟨bc, 0, none⟩ v
 exact ⟨h1.setCell (by show w.heap.size ≤ bc; omega) _, h2.grown hg (by simp; omega), h3, l, h4.setCell _ _ (by show bm ≠ bc; omega), h5⟩
theorem MapInv.go {w W W' : World} {bm n n' : Nat} {fb : Array Value} {P P' : Nat → Int} {l' : AL} (h : MapInv w W bm fb n P) (hm : IntMap W' bm l') (hs : Sat n' P' l') (hg : W.grownBy W' (some bm)) : MapInv w W' bm fb n' P' := by
 obtain ⟨h1, h2, h3, l, h4, h5⟩ := h
 exact ⟨h1.grown hg h1.size (fun q hq => by cases hq; omega), h2.grown hg (by simp; omega), h3, l', hm, hs⟩
theorem MapInv.eq {w W : World} {bm n : Nat} {fb : Array Value} {P P' : Nat → Int} (h : MapInv w W bm fb n P) (he : ∀ s, s < n → P s = P' s) : MapInv w W bm fb n P' := by
 obtain ⟨h1, h2, h3, l, h4, h5⟩ := h
 exact ⟨h1, h2, h3, l, h4, h5.eq he⟩
theorem MapInv.lt {w W : World} {bm n : Nat} {fb : Array Value} {P : Nat → Int} (h : MapInv w W bm fb n P) : bm < W.heap.size := by obtain ⟨_, _, _, l, h4, _⟩ := h; exact h4.lt
set_option maxHeartbeats 8000000 in
set_option maxRecDepth 100000 in
/-- flows.Map -/
theorem fmap_any (B : Nat) (w : World) (vs vl : Value) (f : Flow) (hf : IsFlow B w vs vl f) (hB : B ≤ w.heap.size) :
  Calls Try.prog 23 #[.agg #[vs, vl]] w fun e w' => ∃ v, e = .returned (.tuple #[v, .int .i64 (mapE f)]) ∧ OwnInts w.heap.size w' v (mapR f) ∧ Below w.heap.size w w' := by
 by_cases hck : checkE f = 0
 ·have HF := Lib.hid hf
  have HCK := Lib.hid hck
  obtain ⟨h0, h64, h2000, h50, hlots⟩ := checkE_ok hck
  have HC := Lib.hid (fun o => fcheck_any B (w.alloc o) _ _ f (HF.out.below (box_below hB o) (Nat.le_refl _)) (by simp; omega))
  have HK := Lib.hid (fun W (hW : Below w.heap.size w W) => known_any B W _ _ f (HF.out.below hW hB) (Nat.le_trans hB hW.size))
  have HLT := Lib.hid hlots
  have H50 := Lib.hid h50
  obtain ⟨rfl, ⟨hs1, hs2⟩, hl⟩ := hf
  obtain ⟨b, off, cap, ⟨a, rfl, hcap, hmax, ha⟩, hlen, hc⟩ := hl
  have HCL := Lib.hid hc
  have HA := Lib.hid ha
  have HBB : Hid (∀ k, k ≤ f.lots.length → 0 ≤ beforeI f k ∧ beforeI f k ≤ 50000) := Lib.hid fun k hk => before_bd hck hk
  obtain ⟨n, hn⟩ : ∃ n : Nat, f.senders = (n : Int) := ⟨f.senders.toNat, by omega⟩
  have hn64 : n ≤ 64 := by omega
  have hB0 : beforeI f 0 = (n : Int) := hn
  have HB0 := Lib.hid hB0
  have HTN : Hid (f.senders.toNat = n) := Lib.hid (by omega)
  have HS0 : Hid (0 ≤ f.senders) := Lib.hid h0
  rw [hck] at HC
  rw [hn] at HF HC HK ⊢
  clear hc ha hlots h50 hck hn h0 h64 hB0 hs1 hs2
  go_enter Try.func23, Try.ntmps23
  go_wp2_with fail
  refine (HC.out _).mono ?_
  rintro e w1 ⟨rfl, hb1⟩
  have HX1 := Lib.hid ((Box.new w #[.int .i64 (n : Int), .slice a f.lots.length cap] 24).ext hb1)
  have HW1 : Hid (Below w.heap.size w w1) := Lib.hid ((box_below' w _).trans (hb1.mono (by simp)))
  obtain ⟨z1, r1⟩ := HX1.out
  clear hb1
  go_wp2_with fail
  refine (HK.out w1 HW1.out).mono ?_
  rintro e w2 ⟨rfl, hb2⟩
  have HX2 := Lib.hid (HX1.out.ext hb2)
  have HW2 : Hid (Below w.heap.size w w2) := Lib.hid (HW1.out.trans (hb2.mono HW1.out.size))
  clear hb2 z1 r1
  obtain ⟨z2, r2⟩ := HX2.out
  cases hkn : knownB f
  ·have HE : Hid (mapE f = 1) := Lib.hid (by unfold mapE; rw [if_neg (by rw [HCK.out]; simp), hkn]; rfl)
   have HR : Hid (mapR f = []) := Lib.hid (by unfold mapR; rw [if_neg (by rw [HE.out]; decide)])
   clear hkn
   go_wp2
   go_ret2
   exact ⟨.slice none 0 0, by rw [HE.out]; rfl, by rw [HR.out]; exact OwnInts.nil _ _, HW2.out⟩
  ·have HKN := Lib.hid (knownB_at hkn)
   have HE : Hid (mapE f = 0) := Lib.hid (by unfold mapE; rw [if_neg (by rw [HCK.out]; simp), hkn]; rfl)
   have HR : Hid (mapR f = mapL f) := Lib.hid (by unfold mapR; rw [if_pos HE.out])
   have hmm := @run_makeMap Try.prog
   clear hkn
   go_wp2
   obtain ⟨bm, hbm⟩ : ∃ x, w2.heap.size = x := ⟨_, rfl⟩
   have HI0 : Hid (MapInv w (w2.alloc (.map #[] 0)) bm #[.int .i64 (n : Int), .slice a f.lots.length cap] 0 (fun s => (s : Int))) := Lib.hid ⟨HW2.out.alloc HW2.out.size _, HX2.out.alloc _, by omega, [], by rw [← hbm]; exact IntMap.made w2, Sat.nil _⟩
   rw [hbm]
   obtain ⟨W0, hW0⟩ : ∃ W, w2.alloc (.map #[] 0) = W := ⟨_, rfl⟩
   rw [hW0] at HI0 ⊢
   clear hW0 hbm z2 r2 hmm
   go_loopw [26] (fun i W => ∃ k : Nat, k ≤ n ∧ i = .int .i64 k ∧ MapInv w W bm #[.int .i64 (n : Int), .slice a f.lots.length cap] k (fun s => (s : Int))) (fun i _ => n - (intOf i).toNat)
   case atStart => exact ⟨0, by omega, rfl, HI0.out⟩
   case round =>
    obtain ⟨k, hk, rfl, hinv⟩ := hrel
    have HI := Lib.hid hinv
    obtain ⟨_, hbx, _, l, hm, hst⟩ := hinv
    have HM := Lib.hid hm
    have HST := Lib.hid hst
    obtain ⟨z3, r3⟩ := hbx
    clear hm hst
    by_cases hlt : k < n
    ·have hlt' : decide ((k : Int) < (n : Int)) = true := decide_eq_true (by omega)
     go_wp2_with (at_mapUpdate; refine wpList_update_ints rfl _ _ _ rfl Try.underlying62 Try.underlying3 rfl HM.out rfl rfl ?_; intro w8 hm8 hg8 hz8; have HM8 := Lib.hid hm8; have HG8 := Lib.hid hg8; clear hm8 hg8 hz8)
     go_roundw
     case rel => exact ⟨k + 1, by omega, by go_num, HI.out.go HM8.out (HST.out.more (fun s hs e => by omega)) HG8.out⟩
     case measure => simp [intOf]; omega
    ·have hlt' : decide ((k : Int) < (n : Int)) = false := decide_eq_false (by omega)
     obtain rfl : k = n := by omega
     clear HM HST
     go_wp2_with (go_at_call 53; refine (counter_any _ _).mono ?_; rintro e w' ⟨rfl, rfl⟩)
     obtain ⟨bc, hbc⟩ : ∃ x, wr.heap.size = x := ⟨_, rfl⟩
     have hbmc : bm < bc := by have := HI.out.lt; omega
     have HI1 : Hid (MapInv w (wr.alloc (.cells #[.int .i64 (k : Int)] 3)) bm #[.int .i64 (k : Int), .slice a f.lots.length cap] k (fun s => spotAt f (s : Int) 0)) := Lib.hid (HI.out.alloc _)
     have HC1 : Hid (Cell1 (wr.alloc (.cells #[.int .i64 (k : Int)] 3)) bc (.int .i64 (beforeI f 0))) := Lib.hid (by rw [HB0.out, ← hbc]; exact Cell1.new wr _ _)
     rw [hbc]
     obtain ⟨W1, hW1⟩ : ∃ W, wr.alloc (.cells #[.int .i64 (k : Int)] 3) = W := ⟨_, rfl⟩
     rw [hW1] at HI1 HC1 ⊢
     clear hW1 hbc z3 r3 HI HI0
     go_loopw [39] (fun i W => ∃ j : Nat, j ≤ f.lots.length ∧ i = .int .i64 j ∧ MapInv w W bm #[.int .i64 (k : Int), .slice a f.lots.length cap] k (fun s => spotAt f (s : Int) j) ∧ Cell1 W bc (.int .i64 (beforeI f j))) (fun i _ => f.lots.length - (intOf i).toNat)
     case atStart => exact ⟨0, by omega, rfl, HI1.out, HC1.out⟩
     case round =>
      obtain ⟨j, hj, rfl, hinv, hcc⟩ := hrel
      have HI := Lib.hid hinv
      have HCC := Lib.hid hcc
      clear hinv hcc
      by_cases hlt : j < f.lots.length
      ·obtain rfl : a = some ⟨b, off, none⟩ := by rcases HA.out with h | h; exact h; omega
       obtain ⟨vi, vk, vp, ⟨hb, c1⟩, ⟨_, c2⟩, ⟨_, c3⟩, hlot⟩ := HCL.out j hlt
       obtain ⟨⟨b1, off1, cap1, ⟨a1, rfl, hc1, _, ha1⟩, hl1, hz1, hi1⟩, rfl, ⟨b2, off2, cap2, ⟨a2, rfl, hc2, _, ha2⟩, hl2, hz2, hi2⟩⟩ := hlot
       have HWR := Lib.hid HI.out.1
       have q1 := (HWR.out.cell (p := ⟨b, off + j * 3, none⟩) (by show b < _; omega)).trans c1
       have q2 := (HWR.out.cell (p := ⟨b, off + j * 3 + 1, none⟩) (by show b < _; omega)).trans c2
       have q3 := (HWR.out.cell (p := ⟨b, off + j * 3 + 2, none⟩) (by show b < _; omega)).trans c3
       have HG0 := Lib.hid (HBB.out j (by omega))
       have HG1 := Lib.hid (HBB.out (j + 1) (by omega))
       have HBS : Hid (beforeI f (j + 1) = beforeI f j + (lotAt f.lots j).ins.length) := Lib.hid rfl
       have hlj : lotsB f j = true := lotsB_le HLT.out (by omega)
       have hbj : lotB f j = true := lotsB_lot HLT.out hlt
       have hkj : ∀ m, m < j + 1 → (lotAt f.lots m).known = true := fun m hm => HKN.out m (by omega)
       have HAT := Lib.hid (fun i hi => HTN.out ▸ inLot_at HS0.out hlj hbj hkj (i := i) hi)
       have HPA := Lib.hid (fun i hi => perm_at hbj hkj (i := i) hi)
       have HSTP := Lib.hid (fun i t hi ht he => HTN.out ▸ inLot_step HS0.out hlj hbj hkj (i := i) (t := t) hi (by rw [HTN.out]; exact ht) he)
       have HFR := Lib.hid (fun i s hi hs => inLot_fresh HS0.out hlj hbj hkj (i := i) (s := s) hi (by rw [HTN.out]; exact hs))
       have HZ := Lib.hid (inLot_zero f j)
       have HEN := Lib.hid (inLot_end f j)
       have HI1' := Lib.hid hi1
       have HI2' := Lib.hid hi2
       have HZ1 := Lib.hid hz1
       have HZ2 := Lib.hid hz2
       have HA1 := Lib.hid ha1
       have HA2 := Lib.hid ha2
       obtain ⟨d, hd⟩ : ∃ d, lotAt f.lots j = d := ⟨_, rfl⟩
       rw [hd] at q1 q2 q3 HBS hl1 hl2 hc1 hc2 HAT HPA HSTP HFR HEN HI1' HI2' HZ1 HZ2 HA1 HA2
       clear hd c1 c2 c3 hlj hbj hkj hi1 hi2 hz1 hz2 ha1 ha2
       obtain ⟨m, hm⟩ : ∃ m, wr.heap.size = m := ⟨_, rfl⟩
       have hwm : w.heap.size < m ∧ bc < m ∧ bm < m := by rw [← hm]; exact ⟨by have := HI.out.lt; have := HI.out.2.2.1; omega, HCC.out.lt, HI.out.lt⟩
       go_wp2_with fail
       refine (count_any (beforeI f j) d.ins.length bc _ (HCC.out.alloc _) (by have := HG0.out; omega) (by have := HG0.out; omega) (by omega) (by omega)).mono ?_
       rintro e w' ⟨rfl, rfl⟩
       have HI3 : Hid (MapInv w ((wr.alloc (.cells #[.slice a1 d.ins.length cap1, .bool d.known, .slice a2 d.perm.length cap2] 54)).setCell ⟨bc, 0, none⟩ (.int .i64 (beforeI f j + d.ins.length))) bm #[.int .i64 (k : Int), .slice (some ⟨b, off, none⟩) f.lots.length cap] k (inLot f j 0)) := Lib.hid (((HI.out.alloc _).count hbmc _).eq (fun s _ => (HZ.out s).symm))
       have HC3 : Hid (Cell1 ((wr.alloc (.cells #[.slice a1 d.ins.length cap1, .bool d.known, .slice a2 d.perm.length cap2] 54)).setCell ⟨bc, 0, none⟩ (.int .i64 (beforeI f j + d.ins.length))) bc (.int .i64 (beforeI f (j + 1)))) := Lib.hid (by rw [HBS.out]; exact (HCC.out.alloc _).set _)
       have HX3 : Hid (Box ((wr.alloc (.cells #[.slice a1 d.ins.length cap1, .bool d.known, .slice a2 d.perm.length cap2] 54)).setCell ⟨bc, 0, none⟩ (.int .i64 (beforeI f j + d.ins.length))) m #[.slice a1 d.ins.length cap1, .bool d.known, .slice a2 d.perm.length cap2]) :=
        Lib.hid (by rw [← hm] at hwm ⊢; exact (Box.new wr _ _).grown (grown_setCell _ _ _) (by simp; omega))
       obtain ⟨w3, hw3⟩ : ∃ w3, ((wr.alloc (.cells #[.slice a1 d.ins.length cap1, .bool d.known, .slice a2 d.perm.length cap2] 54)).setCell ⟨bc, 0, none⟩ (.int .i64 (beforeI f j + d.ins.length))) = w3 := ⟨_, rfl⟩
       rw [hw3] at HI3 HC3 HX3 ⊢
       clear hw3 q1 q2 q3 hm HI HCC HI1 HC1
       obtain ⟨z3, r3⟩ := HX3.out
       go_wp2
       go_loopw [51] (fun i W => ∃ q : Nat, q ≤ d.ins.length ∧ i = .int .i64 q ∧ MapInv w W bm #[.int .i64 (k : Int), .slice (some ⟨b, off, none⟩) f.lots.length cap] k (inLot f j q) ∧ w3.grownBy W (some bm)) (fun i _ => d.ins.length - (intOf i).toNat)
       case atStart => exact ⟨0, by omega, rfl, HI3.out, grown_refl _ _⟩
       case round =>
        obtain ⟨q, hq, rfl, hinv, hgr⟩ := hrel
        have HI := Lib.hid hinv
        have HGR := Lib.hid hgr
        clear hinv hgr r3
        by_cases hlq : q < d.ins.length
        ·obtain rfl : a1 = some ⟨b1, off1, none⟩ := by rcases HA1.out with h | h; exact h; omega
         obtain ⟨g1, g2, g3, g4⟩ := HPA.out q hlq
         have hqp : q < d.perm.length := by omega
         clear g3 g4
         obtain rfl : a2 = some ⟨b2, off2, none⟩ := by rcases HA2.out with h | h; exact h; omega
         have HWI := Lib.hid HI.out.1
         have x1 := (HWI.out.cell (p := ⟨b1, off1 + q, none⟩) (by have := (HI1'.out q hlq).1; show b1 < _; omega)).trans (HI1'.out q hlq).2
         obtain ⟨t, ht, het⟩ := HAT.out q hlq
         have HSTEP := Lib.hid (HSTP.out q t hlq ht het)
         have HFRE := Lib.hid (fun s hs => HFR.out q s hlq hs)
         have HET := Lib.hid het
         obtain ⟨_, _, hbm0, l, hml, hsl⟩ := id HI.out
         have HML := Lib.hid hml
         have HSL := Lib.hid hsl
         have HLK : Hid (alook l (nth d.ins q) = some (.int .i64 (t : Int))) := Lib.hid (by rw [← het]; exact hsl.look ht)
         have HG0' := HG0.out
         have HG1' := HG1.out
         rw [HBS.out] at HG1'
         obtain ⟨bv, hbv⟩ : ∃ x, beforeI f j = x := ⟨_, rfl⟩
         have HBV := Lib.hid hbv
         rw [hbv] at HG0' HG1' HSTEP HFRE ⊢
         clear hml hsl het hbv
         obtain ⟨ix, hix⟩ : ∃ x, nth d.ins q = x := ⟨_, rfl⟩
         have HIX := Lib.hid hix
         rw [hix] at x1 HLK HET
         clear hix
         have hcq := HI2'.out q hqp
         obtain ⟨px, hpx⟩ : ∃ x, nth d.perm q = x := ⟨_, rfl⟩
         have HPX := Lib.hid hpx
         rw [hpx] at hcq g1 g2 HSTEP HFRE
         clear hpx
         have HSUM : Hid (IntKind.i64.wrap (bv + px) = bv + px) := Lib.hid (by rw [IntWalk.i64_in _ (by omega)])
         have HKB : Hid (∀ W, wr.grownBy W (some bm) → W.cell? ⟨m, 2, none⟩ = some (.slice (some ⟨b2, off2, none⟩) d.perm.length cap2) ∧ W.cell? ⟨b2, off2 + q, none⟩ = some (.int .i64 px)) := Lib.hid fun W hW => by
          have hgg := grown_trans HGR.out hW
          refine ⟨(grown_cell hgg z3 (by simp; omega)).trans (HX3.out.2 2), ?_⟩
          have h1 := HWI.out.grown hW HWI.out.size (fun z hz => by cases hz; omega)
          exact (h1.cell (p := ⟨b2, off2 + q, none⟩) (by have := hcq.1; show b2 < _; omega)).trans hcq.2
         obtain ⟨W4, rfl⟩ : ∃ W, W = wr := ⟨_, rfl⟩
         clear hcq
         go_upto_region 20 with fail
         obtain ⟨V, hV⟩ : ∃ V : List (Option Value), V = [some (.map (some bm)), some (.int .i64 bv), some (.pointer (some ⟨m, 2, none⟩)), some (.slice (some ⟨b2, off2, none⟩) d.perm.length cap2), some (.int .i64 (q : Int)), some (.pointer (some ⟨b2, off2 + q, none⟩)), some (.int .i64 px), some (.int .i64 (bv + px)), some (.map (some bm)), some (.int .i64 ix), some (.int .i64 (t : Int)), none] := ⟨_, rfl⟩
         have HVV := Lib.hid hV
         clear hV
         refine wp_region_V [some 56, some 57, some 58, some 59, some 60, some 61, some 62, some 63, some 64, some 65, some 66, none] (fun L w' xs => ValsAt V L xs ∧ ((L 11 = false → IntMap w' bm l) ∧ (L 11 = true → IntMap w' bm (aset l (bv + px) (.int .i64 (t : Int)))) ∧ W4.grownBy w' (some bm) ∧ (L 11 = true → L 10 = true))) (by kernel_rfl) (by kernel_rfl) (by rfl) (by rfl) (by rfl) ?_ ?_ ?_
         focus
          exact fun xs => ⟨ValsAt.none _ _, (fun _ => HML.out), (fun h => by cases h), grown_drew _ _, (fun h => by cases h)⟩
         focus
          refine ⟨?_, ?_, ?_, ?_, ?_, ?_, ?_, ?_, ?_, ?_, ?_, ?_, trivial⟩
          all_goals
           intro L a' w' xs hi hd hf hJ K hK
           obtain ⟨hv, h0', h1', hgW, hcW⟩ := hJ
           have HF := Lib.hid hf
           have HVA := Lib.hid hv
           have HLI := Lib.hid hi
           clear hf hv hi
          focus
           clear hd
           obtain ⟨ρ, hρ⟩ : ∃ ρ, a'.eval = ρ := ⟨_, rfl⟩
           have hcst : ∀ v, ρ (.const v) = v := fun v => (congrFun hρ (.const v)).symm
           have l5 : ρ (.tmp 5) = .map (some bm) := (congrFun hρ (.tmp 5)).symm.trans (HF.out.lo 5 rfl)
           rw [if_pos (by simp [Region.wanted])]
           unfold Oper.wp
           rw [hρ]
           clear hρ
           go_simp
           exact hK.out _ _ ⟨HVA.out.set (i := 0) (by rw [HVV.out]; rfl), h0', h1', hgW, hcW⟩
          focus
           clear hd
           obtain ⟨ρ, hρ⟩ : ∃ ρ, a'.eval = ρ := ⟨_, rfl⟩
           have hcst : ∀ v, ρ (.const v) = v := fun v => (congrFun hρ (.const v)).symm
           have l10 : ρ (.tmp 10) = .int .i64 bv := (congrFun hρ (.tmp 10)).symm.trans (HF.out.lo 10 rfl)
           rw [if_pos (by simp [Region.wanted])]
           unfold Oper.wp
           rw [hρ]
           clear hρ
           go_simp
           exact hK.out _ _ ⟨HVA.out.set (i := 1) (by rw [HVV.out]; rfl), h0', h1', hgW, hcW⟩
          focus
           clear hd
           obtain ⟨ρ, hρ⟩ : ∃ ρ, a'.eval = ρ := ⟨_, rfl⟩
           have hcst : ∀ v, ρ (.const v) = v := fun v => (congrFun hρ (.const v)).symm
           have l9 : ρ (.tmp 9) = .pointer (some ⟨m, 0, none⟩) := (congrFun hρ (.tmp 9)).symm.trans (HF.out.lo 9 rfl)
           rw [if_pos (by simp [Region.wanted])]
           unfold Oper.wp
           rw [hρ]
           clear hρ
           go_simp
           exact hK.out _ _ ⟨HVA.out.set (i := 2) (by rw [HVV.out]; rfl), h0', h1', hgW, hcW⟩
          focus
           obtain ⟨d2, _⟩ := hd
           obtain ⟨ρ, hρ⟩ : ∃ ρ, a'.eval = ρ := ⟨_, rfl⟩
           have hcst : ∀ v, ρ (.const v) = v := fun v => (congrFun hρ (.const v)).symm
           have v2 : ρ (.tmp 58) = .pointer (some ⟨m, 2, none⟩) := (congrFun hρ (.tmp 58)).symm.trans ((HF.out.ev 2 rfl d2).trans (HVA.out 2 _ (by rw [HVV.out]; rfl) d2))
           obtain ⟨k0, k1⟩ := HKB.out _ hgW
           rw [if_pos (by simp [Region.wanted])]
           unfold Oper.wp
           rw [hρ]
           clear hρ
           go_simp
           exact hK.out _ _ ⟨HVA.out.set (i := 3) (by rw [HVV.out]; rfl), h0', h1', hgW, hcW⟩
          focus
           clear hd
           obtain ⟨ρ, hρ⟩ : ∃ ρ, a'.eval = ρ := ⟨_, rfl⟩
           have hcst : ∀ v, ρ (.const v) = v := fun v => (congrFun hρ (.const v)).symm
           have l11 : ρ (.tmp 11) = .int .i64 (q : Int) := (congrFun hρ (.tmp 11)).symm.trans (HF.out.lo 11 rfl)
           rw [if_pos (by simp [Region.wanted])]
           unfold Oper.wp
           rw [hρ]
           clear hρ
           go_simp
           exact hK.out _ _ ⟨HVA.out.set (i := 4) (by rw [HVV.out]; rfl), h0', h1', hgW, hcW⟩
          focus
           obtain ⟨d3, d4, _⟩ := hd
           obtain ⟨ρ, hρ⟩ : ∃ ρ, a'.eval = ρ := ⟨_, rfl⟩
           have hcst : ∀ v, ρ (.const v) = v := fun v => (congrFun hρ (.const v)).symm
           have v3 : ρ (.tmp 59) = .slice (some ⟨b2, off2, none⟩) d.perm.length cap2 := (congrFun hρ (.tmp 59)).symm.trans ((HF.out.ev 3 rfl d3).trans (HVA.out 3 _ (by rw [HVV.out]; rfl) d3))
           have v4 : ρ (.tmp 60) = .int .i64 (q : Int) := (congrFun hρ (.tmp 60)).symm.trans ((HF.out.ev 4 rfl d4).trans (HVA.out 4 _ (by rw [HVV.out]; rfl) d4))
           rw [if_pos (by simp [Region.wanted])]
           unfold Oper.wp
           rw [hρ]
           clear hρ
           go_simp
           exact hK.out _ _ ⟨HVA.out.set (i := 5) (by rw [HVV.out]; rfl), h0', h1', hgW, hcW⟩
          focus
           obtain ⟨d5, _⟩ := hd
           obtain ⟨ρ, hρ⟩ : ∃ ρ, a'.eval = ρ := ⟨_, rfl⟩
           have hcst : ∀ v, ρ (.const v) = v := fun v => (congrFun hρ (.const v)).symm
           have v5 : ρ (.tmp 61) = .pointer (some ⟨b2, off2 + q, none⟩) := (congrFun hρ (.tmp 61)).symm.trans ((HF.out.ev 5 rfl d5).trans (HVA.out 5 _ (by rw [HVV.out]; rfl) d5))
           obtain ⟨k0, k1⟩ := HKB.out _ hgW
           rw [if_pos (by simp [Region.wanted])]
           unfold Oper.wp
           rw [hρ]
           clear hρ
           go_simp
           exact hK.out _ _ ⟨HVA.out.set (i := 6) (by rw [HVV.out]; rfl), h0', h1', hgW, hcW⟩
          focus
           obtain ⟨d1, d6, _⟩ := hd
           obtain ⟨ρ, hρ⟩ : ∃ ρ, a'.eval = ρ := ⟨_, rfl⟩
           have hcst : ∀ v, ρ (.const v) = v := fun v => (congrFun hρ (.const v)).symm
           have v1 : ρ (.tmp 57) = .int .i64 bv := (congrFun hρ (.tmp 57)).symm.trans ((HF.out.ev 1 rfl d1).trans (HVA.out 1 _ (by rw [HVV.out]; rfl) d1))
           have v6 : ρ (.tmp 62) = .int .i64 px := (congrFun hρ (.tmp 62)).symm.trans ((HF.out.ev 6 rfl d6).trans (HVA.out 6 _ (by rw [HVV.out]; rfl) d6))
           have hsum := HSUM.out
           rw [if_pos (by simp [Region.wanted])]
           unfold Oper.wp
           rw [hρ]
           clear hρ
           go_simp
           exact hK.out _ _ ⟨HVA.out.set (i := 7) (by rw [HVV.out]; rfl), h0', h1', hgW, hcW⟩
          focus
           clear hd
           obtain ⟨ρ, hρ⟩ : ∃ ρ, a'.eval = ρ := ⟨_, rfl⟩
           have hcst : ∀ v, ρ (.const v) = v := fun v => (congrFun hρ (.const v)).symm
           have l5 : ρ (.tmp 5) = .map (some bm) := (congrFun hρ (.tmp 5)).symm.trans (HF.out.lo 5 rfl)
           rw [if_pos (by simp [Region.wanted])]
           unfold Oper.wp
           rw [hρ]
           clear hρ
           go_simp
           exact hK.out _ _ ⟨HVA.out.set (i := 8) (by rw [HVV.out]; rfl), h0', h1', hgW, hcW⟩
          focus
           clear hd
           obtain ⟨ρ, hρ⟩ : ∃ ρ, a'.eval = ρ := ⟨_, rfl⟩
           have hcst : ∀ v, ρ (.const v) = v := fun v => (congrFun hρ (.const v)).symm
           have l12 : ρ (.tmp 12) = .int .i64 ix := (congrFun hρ (.tmp 12)).symm.trans (HF.out.lo 12 rfl)
           rw [if_pos (by simp [Region.wanted])]
           unfold Oper.wp
           rw [hρ]
           clear hρ
           go_simp
           exact hK.out _ _ ⟨HVA.out.set (i := 9) (by rw [HVV.out]; rfl), h0', h1', hgW, hcW⟩
          focus
           obtain ⟨d8, d9, _⟩ := hd
           have v8 : a'.eval (.tmp 64) = .map (some bm) := (HF.out.ev 8 rfl d8).trans (HVA.out 8 _ (by rw [HVV.out]; rfl) d8)
           have v9 : a'.eval (.tmp 65) = .int .i64 ix := (HF.out.ev 9 rfl d9).trans (HVA.out 9 _ (by rw [HVV.out]; rfl) d9)
           rw [if_pos (by simp [Region.wanted])]
           have hN : L 11 = false := by
            cases e : L 11 with
            | false => rfl
            | true => have := hcW e; rw [HLI.out] at this; cases this
           refine wp_lookup_ints (.tmp 64) (.tmp 65) rfl Try.underlying62 Try.underlying3 (Try.zeroValue3 _) v8 (h0' hN) v9 HLK.out ?_
           exact hK.out _ _ ⟨HVA.out.set (i := 10) (by rw [HVV.out]; rfl), h0', h1', hgW, (fun _ => rfl)⟩
          focus
           obtain ⟨d0, d7, d10, _, d1, d2, d3, d4, d5, d6, _, d8, d9, _, _⟩ := hd
           have v0 : a'.eval (.tmp 56) = .map (some bm) := (HF.out.ev 0 rfl d0).trans (HVA.out 0 _ (by rw [HVV.out]; rfl) d0)
           have v7 : a'.eval (.tmp 63) = .int .i64 (bv + px) := (HF.out.ev 7 rfl d7).trans (HVA.out 7 _ (by rw [HVV.out]; rfl) d7)
           have v10 : a'.eval (.tmp 66) = .int .i64 (t : Int) := (HF.out.ev 10 rfl d10).trans (HVA.out 10 _ (by rw [HVV.out]; rfl) d10)
           rw [if_pos (by simp [Region.wanted])]
           refine wp_update_ints (.tmp 56) (.tmp 63) (.tmp 66) rfl Try.underlying62 Try.underlying3 v0 (h0' HLI.out) v7 v10 ?_
           intro w3 q1 q2 q3
           exact hK.out undef _ ⟨HVA.out.free (i := 11) (by rw [HVV.out]; rfl) _, (fun h => by cases h), (fun _ => q1), grown_trans hgW q2, (fun _ => d10)⟩
         focus
          intro L w' xs hL hJ
          obtain ⟨hv, h0', h1', hgW, hcW⟩ := hJ
          have e0 : xs 0 = .map (some bm) := hv 0 _ (by rw [HVV.out]; rfl) (hL 0 (by decide))
          have e1 : xs 1 = .int .i64 bv := hv 1 _ (by rw [HVV.out]; rfl) (hL 1 (by decide))
          have e2 : xs 2 = .pointer (some ⟨m, 2, none⟩) := hv 2 _ (by rw [HVV.out]; rfl) (hL 2 (by decide))
          have e3 : xs 3 = .slice (some ⟨b2, off2, none⟩) d.perm.length cap2 := hv 3 _ (by rw [HVV.out]; rfl) (hL 3 (by decide))
          have e4 : xs 4 = .int .i64 (q : Int) := hv 4 _ (by rw [HVV.out]; rfl) (hL 4 (by decide))
          have e5 : xs 5 = .pointer (some ⟨b2, off2 + q, none⟩) := hv 5 _ (by rw [HVV.out]; rfl) (hL 5 (by decide))
          have e6 : xs 6 = .int .i64 px := hv 6 _ (by rw [HVV.out]; rfl) (hL 6 (by decide))
          have e7 : xs 7 = .int .i64 (bv + px) := hv 7 _ (by rw [HVV.out]; rfl) (hL 7 (by decide))
          have e8 : xs 8 = .map (some bm) := hv 8 _ (by rw [HVV.out]; rfl) (hL 8 (by decide))
          have e9 : xs 9 = .int .i64 ix := hv 9 _ (by rw [HVV.out]; rfl) (hL 9 (by decide))
          have e10 : xs 10 = .int .i64 (t : Int) := hv 10 _ (by rw [HVV.out]; rfl) (hL 10 (by decide))
          simp only [putGo, Act.put, List.setIfInBounds_toArray, List.set_cons_zero, List.set_cons_succ, e0, e1, e2, e3, e4, e5, e6, e7, e8, e9, e10]
          clear hv e0 e1 e2 e3 e4 e5 e6 e7 e8 e9 e10
         have HM5 := Lib.hid (h1' (hL 11 (by decide)))
         have HG5 := Lib.hid hgW
         clear h0' h1' hgW hcW hL
         obtain ⟨w5, rfl⟩ : ∃ W, W = w' := ⟨_, rfl⟩
         go_wp2_with (at_delete; refine wpList_delete_ints rfl _ _ rfl Try.underlying62 Try.underlying3 rfl HM5.out rfl ?_; intro w8 hm8 hg8 hz8; have HM8 := Lib.hid hm8; have HG8 := Lib.hid hg8; clear hm8 hg8 hz8)
         go_roundw
         case rel =>
          refine ⟨q + 1, by omega, by go_num, HI.out.go HM8.out ?_ (grown_trans HG5.out HG8.out), grown_trans HGR.out (grown_trans HG5.out HG8.out)⟩
          have h := HSL.out.move ht HFRE.out HSTEP.out
          rw [HET.out] at h
          exact h
         case measure => simp [intOf]; omega
        ·obtain rfl : q = d.ins.length := by omega
         go_wp2
         go_roundw
         case rel => exact ⟨j + 1, by omega, by go_num, HI.out.eq (fun s _ => HEN.out s), HC3.out.grown HGR.out (by simp; omega)⟩
         case measure => simp [intOf]; omega
      ·obtain rfl : j = f.lots.length := by omega
       obtain ⟨_, hbx, hbm0, l, hml, hsl⟩ := id HI.out
       have HML := Lib.hid hml
       have HSL := Lib.hid hsl
       obtain ⟨z3, r3⟩ := hbx
       have HSZ := Lib.hid HI.out.1.size
       clear hml hsl HI1 HC1
       obtain ⟨W5, rfl⟩ : ∃ W, W = wr := ⟨_, rfl⟩
       go_wp2_with (first
        | (at_make; refine wpList_make_ints (m := k) (C := w.heap.size) rfl _ _ rfl rfl rfl (by omega) HSZ.out ?_; intro w6 ho6 hb6 hz6; have HO6 := Lib.hid ho6; have HB6 := Lib.hid hb6; have HM6 := Lib.hid (HML.out.ext hb6); have hz6' := hz6; clear ho6 hb6 hz6)
        | (refine wpList_range_ints rfl (.tmp 74) rfl Try.underlying62 rfl HM6.out ?_; intro w9 hit9 hb9 hz9; have HIT9 := Lib.hid hit9; have HB9 := Lib.hid hb9; have hz9' := hz9; clear hit9 hb9 hz9))
       obtain ⟨g, hg⟩ : ∃ x, W5.heap.size = x := ⟨_, rfl⟩
       obtain ⟨r, hr⟩ : ∃ x, w6.heap.size = x := ⟨_, rfl⟩
       have hgr : w.heap.size ≤ g ∧ r = g + 1 ∧ bm < g := by have := HSZ.out; have := HI.out.lt; omega
       rw [hg] at HO6
       rw [hr] at HIT9
       rw [hg, hr]
       have HO9 := Lib.hid (HO6.out.below HB9.out)
       have HB59 : Hid (Below w.heap.size w w9) := Lib.hid (HI.out.1.trans ((HB6.out.trans (HB9.out.mono (by omega))).mono HI.out.1.size))
       have HMP : Hid (∀ s, s < k → nth (mapL f) s = spotAt f (s : Int) f.lots.length ∧ I64 (spotAt f (s : Int) f.lots.length)) := Lib.hid fun s hs => ⟨mapL_at (by rw [HTN.out]; exact hs), by
        obtain ⟨p, p1, p2, p3⟩ := spot_asg HS0.out HLT.out HKN.out
        rw [← p3 s (by rw [HTN.out]; exact hs)]
        have h1 := (p2.2 _).1 (nth_mem' (l := p) (i := s) (by rw [p1, HTN.out]; exact hs))
        have h2 := HBB.out f.lots.length (Nat.le_refl _)
        unfold I64
        omega⟩
       have HML' : Hid ((mapL f).length = k) := Lib.hid (by rw [mapL_len, HTN.out])
       obtain ⟨n1, n2, n3, n4, n5⟩ : g ≠ r ∧ r ≠ bm ∧ g ≠ bm ∧ w.heap.size ≤ g ∧ w.heap.size ≤ r := by omega
       clear hgr hg hr hz6' hz9' HML HM6 HO6 HB6 HB9 z3 r3
       simp only [Act.put, List.setIfInBounds_toArray, List.set_cons_zero, List.set_cons_succ]
       go_loopw [] (fun W => ∃ left ys, MapIter W bm r l left ∧ OwnInts w.heap.size W (.slice (some ⟨g, 0, none⟩) k k) ys ∧ ys.length = k ∧ (∀ s, s < k → nth ys s = spotAt f (s : Int) f.lots.length ∨ (spotAt f (s : Int) f.lots.length, Value.int .i64 (s : Int)) ∈ left) ∧ (∀ p ∈ left, p ∈ l) ∧ Below w.heap.size w W) (fun W => iterLeft W bm r)
       case atStart => exact ⟨l, List.replicate k 0, HIT9.out, HO9.out, by simp, fun s hs => .inr ((HSL.out.2 _ _).2 ⟨s, hs, rfl, rfl⟩), fun p hp => hp, HB59.out⟩
       case round =>
        obtain ⟨left, ys, hit, ho, hys, hin, hsub, hbl⟩ := hrel
        have HIT := Lib.hid hit
        have HLEFT := Lib.hid hit.left
        have HO := Lib.hid ho
        have HYS := Lib.hid hys
        have HIN := Lib.hid hin
        have HSUB := Lib.hid hsub
        have HBL := Lib.hid hbl
        have hne : r ≠ bm := by omega
        clear hit ho hys hin hsub hbl HIT9 HO9 HB59
        by_cases hlf : left = []
        ·have HRES : Hid (ys = mapL f) := Lib.hid (ext_nth (by rw [HYS.out, HML'.out]) (fun s hs => by
          rw [HYS.out] at hs
          rcases HIN.out s hs with h | h
          ·rw [h, (HMP.out s hs).1]
          ·rw [hlf] at h; cases h))
         go_wp2_with (refine wpList_next_doneA rfl (.tmp 75) rfl rfl HIT.out hne hlf ?_)
         go_ret2
         exact ⟨_, by rw [HE.out]; rfl, by rw [HR.out, ← HRES.out]; exact HO.out, HBL.out⟩
        ·go_wp2_with (refine wpList_next_moreA rfl (.tmp 75) rfl rfl HIT.out hne hlf ?_; intro A x v B' w3 hl2 hit3 hg3 hz3 hen; have HIT3 := Lib.hid hit3; have HG3 := Lib.hid hg3; have HL2 := Lib.hid hl2; obtain ⟨s, hs, hps, rfl⟩ := (HSL.out.2 x v).1 (HSUB.out _ (by rw [hl2]; simp)); have HPS := Lib.hid hps; have hs' : s < ys.length := (by rw [HYS.out]; exact hs); have HO3 := Lib.hid (HO.out.kept hg3 (.inr (by simp [Value.ownBlock]; omega))); have c1 := HO3.out.cellAt HYS.out.symm hs'; have c2 := HO3.out.freeAt HYS.out.symm s; have hsk : (s : Int) < (k : Int) := (by omega); clear hit3 hg3 hz3 hl2 hps)
         have hl2 := HL2.out
         have hps := HPS.out
         have HB3 : Hid (Below w.heap.size w w3) := Lib.hid (HBL.out.grown HG3.out HBL.out.size (fun z hz => by cases hz; omega))
         have HST := Lib.hid (HO3.out.store HYS.out.symm s (y := x) (by rw [← hps]; exact (HMP.out s hs).2))
         have HLN : Hid ((A ++ B').length < left.length) := Lib.hid (by rw [hl2]; simp)
         have HSUB2 : Hid (∀ p ∈ A ++ B', p ∈ l) := Lib.hid fun p hp => HSUB.out p (by
          rw [hl2]
          rcases List.mem_append.1 hp with h | h
          ·exact List.mem_append_left _ h
          ·exact List.mem_append_right _ (List.mem_cons_of_mem _ h))
         have HIN2 : Hid (∀ u, u < k → nth (ys.set s x) u = spotAt f (u : Int) f.lots.length ∨ (spotAt f (u : Int) f.lots.length, Value.int .i64 (u : Int)) ∈ A ++ B') := Lib.hid fun u hu => by
          by_cases e : u = s
          ·subst e
           left
           unfold nth
           rw [List.getD_eq_getElem?_getD, List.getElem?_set_self hs', ← hps]
           rfl
          ·rcases HIN.out u hu with h | h
           ·left
            rw [← h]
            unfold nth
            rw [List.getD_eq_getElem?_getD, List.getElem?_set_ne (fun h => e h.symm), ← List.getD_eq_getElem?_getD]
           ·right
            rw [hl2] at h
            rcases List.mem_append.1 h with h | h
            ·exact List.mem_append_left _ h
            ·rcases List.mem_cons.1 h with h | h
             ·simp only [Prod.mk.injEq, Value.int.injEq] at h
              exact absurd (by have := h.2; omega) e
             ·exact List.mem_append_right _ h
         clear hl2 hps
         go_roundw
         case rel => exact ⟨A ++ B', ys.set s x, HIT3.out.kept (grown_setCell _ ⟨g, s, none⟩ _) (by simp; omega) (by simp; omega), HST.out, by rw [List.length_set]; exact HYS.out, HIN2.out, HSUB2.out, HB3.out.setCell (p := ⟨g, s, none⟩) (by show w.heap.size ≤ g; omega) _⟩
         case measure =>
          have h1 := (HIT3.out.kept (grown_setCell _ ⟨g, s, none⟩ (.int .i64 x)) (by simp; omega) (by simp; omega)).left
          rw [h1, HLEFT.out]
          exact HLN.out
 ·have HF := Lib.hid hf
  have HE : Hid (mapE f = checkE f) := Lib.hid (by unfold mapE; rw [if_pos hck])
  have HR : Hid (mapR f = []) := Lib.hid (by unfold mapR; rw [if_neg (by rw [HE.out]; exact hck)])
  have HC := Lib.hid (fun o => fcheck_any B (w.alloc o) _ _ f (HF.out.below (box_below hB o) (Nat.le_refl _)) (by simp; omega))
  have hck1 : (checkE f != 0) = true := by simpa using hck
  obtain ⟨rfl, ⟨hs1, hs2⟩, hl⟩ := hf
  obtain ⟨b, off, cap, ⟨a, rfl, hcap, hmax, ha⟩, hlen, hc⟩ := hl
  clear hc ha hck
  go_enter Try.func23, Try.ntmps23
  go_wp2_with fail
  refine (HC.out _).mono ?_
  rintro e w1 ⟨rfl, hb1⟩
  have HW1 : Hid (Below w.heap.size w w1) := Lib.hid ((box_below' w _).trans (hb1.mono (by simp)))
  clear hb1
  go_wp2
  go_ret2
  exact ⟨.slice none 0 0, by rw [HE.out]; rfl, by rw [HR.out]; exact OwnInts.nil _ _, HW1.out⟩
end Go.Proofs.Yteiaeaciaglmgaa
set_option linter.unusedVariables false
set_option linter.unusedSimpArgs false
set_option linter.unusedVariables false
set_option linter.unusedSimpArgs false
namespace Go.Proofs.Yteiaeaciaglmgaa
def alongL (f : Flow) (w : List (List Int)) : Nat → List Lot
 | 0 => []
 | k + 1 => alongL f w k ++ [⟨(lotAt f.lots k).ins, true, rowAt w k⟩]
theorem alongL_len (f : Flow) (w : List (List Int)) : ∀ k, (alongL f w k).length = k
 | 0 => rfl
 | k + 1 => by simp [alongL, alongL_len f w k]
theorem alongL_at (f : Flow) (w : List (List Int)) : ∀ {k j : Nat}, j < k → lotAt (alongL f w k) j = ⟨(lotAt f.lots j).ins, true, rowAt w j⟩
 | 0, _, h => by omega
 | k + 1, j, h => by
  simp only [alongL]
  unfold lotAt
  rw [List.getD_eq_getElem?_getD]
  by_cases e : j = k
  ·subst e
   rw [List.getElem?_append_right (by rw [alongL_len]; omega), alongL_len]
   simp
  ·rw [List.getElem?_append_left (by rw [alongL_len]; omega), ← List.getD_eq_getElem?_getD]
   exact alongL_at f w (by omega)
/-- the flow whose lots shuffle as a way says -/
def alongF (f : Flow) (w : List (List Int)) : Flow := ⟨f.senders, alongL f w f.lots.length⟩
theorem along_len (f : Flow) (w : List (List Int)) : (alongF f w).lots.length = f.lots.length := alongL_len f w _
theorem along_at {f : Flow} {w : List (List Int)} {j : Nat} (hj : j < f.lots.length) : lotAt (alongF f w).lots j = ⟨(lotAt f.lots j).ins, true, rowAt w j⟩ := alongL_at f w hj
theorem lotAt_out {ls : List Lot} {j : Nat} (h : ls.length ≤ j) : lotAt ls j = ⟨[], false, []⟩ := by
 unfold lotAt
 rw [List.getD_eq_getElem?_getD, List.getElem?_eq_none h]
 rfl
theorem along_like (f : Flow) (w : List (List Int)) : Like f (alongF f w) := by
 refine ⟨rfl, along_len f w, fun j => ?_⟩
 by_cases hj : j < f.lots.length
 ·rw [along_at hj]
 ·rw [lotAt_out (by rw [along_len]; omega), lotAt_out (by omega)]
/-- the first k permutations of a way are permutations, and those of known lots -/
def WayOk (f : Flow) (w : List (List Int)) (k : Nat) : Prop := ∀ j, j < k → rowAt w j ∈ permsOf (lotAt f.lots j)
theorem WayOk.le {f : Flow} {w : List (List Int)} {k m : Nat} (h : WayOk f w m) (hk : k ≤ m) : WayOk f w k := fun j hj => h j (by omega)
theorem along_lotB {f : Flow} {w : List (List Int)} {j : Nat} (hj : j < f.lots.length) (h : lotB f j = true) (hw : rowAt w j ∈ permsOf (lotAt f.lots j)) : lotB (alongF f w) j = true := by
 have hp := permsOf_perm h hw
 unfold lotB at h ⊢
 simp only [(along_like f w).before, (along_like f w).gone, (along_like f w).ins] at h ⊢
 rw [along_at hj]
 simp only [Bool.and_eq_true] at h ⊢
 exact ⟨h.1, by simpa using hp⟩
theorem along_lotsB {f : Flow} {w : List (List Int)} : ∀ {k : Nat}, k ≤ f.lots.length → lotsB f k = true → WayOk f w k → lotsB (alongF f w) k = true
 | 0, _, _, _ => rfl
 | k + 1, hk, h, hw => by
  simp only [lotsB, Bool.and_eq_true] at h ⊢
  exact ⟨along_lotsB (by omega) h.1 (hw.le (by omega)), along_lotB (by omega) h.2 (hw k (by omega))⟩
theorem along_check {f : Flow} {w : List (List Int)} (h : checkE f = 0) (hw : WayOk f w f.lots.length) : checkE (alongF f w) = 0 := by
 obtain ⟨h0, h1, h2, h3, h4⟩ := checkE_ok h
 unfold checkE
 have e1 : (alongF f w).senders = f.senders := rfl
 rw [along_len, (along_like f w).before, e1, if_neg (by omega), if_neg (by omega), along_lotsB (Nat.le_refl _) h4 hw, if_pos rfl]
theorem along_known {f : Flow} {w : List (List Int)} : ∀ j, j < f.lots.length → (lotAt (alongF f w).lots j).known = true := fun j hj => by rw [along_at hj]
/-- where a sender's letter is behind k lots -/
def posW (f : Flow) (w : List (List Int)) (k i : Nat) : Int := spotAt (alongF f w) (i : Int) k
theorem pos_zero (f : Flow) (w : List (List Int)) (i : Nat) : posW f w 0 i = i := rfl
theorem pos_step {f : Flow} {w : List (List Int)} {k : Nat} (hk : k < f.lots.length) (i : Nat) :
  posW f w (k + 1) i = if hasB (lotAt f.lots k).ins (posW f w k i) then beforeI f k + nth (rowAt w k) ((lotAt f.lots k).ins.idxOf (posW f w k i)) else posW f w k i := by
 unfold posW
 simp only [spotAt, along_at hk, (along_like f w).before]
theorem pos_same {f : Flow} {w w' : List (List Int)} : ∀ {k : Nat}, k ≤ f.lots.length → (∀ j, j < k → rowAt w j = rowAt w' j) → ∀ i, posW f w k i = posW f w' k i
 | 0, _, _, i => rfl
 | k + 1, hk, h, i => by rw [pos_step (by omega), pos_step (by omega), pos_same (by omega) (fun j hj => h j (by omega)) i, h k (by omega)]
/-- all free spots hold one letter each -/
theorem pos_all {f : Flow} {w : List (List Int)} (h0 : 0 ≤ f.senders) {k : Nat} (hk : k ≤ f.lots.length) (hl : lotsB f k = true) (hw : WayOk f w k) :
  ∃ p, p.length = f.senders.toNat ∧ AllAt f k p ∧ ∀ s : Nat, s < f.senders.toNat → nth p s = posW f w k s := by
 obtain ⟨p, h1, h2, h3⟩ := spot_asg (f := alongF f w) (k := k) h0 (along_lotsB hk hl hw) (fun j hj => along_known j (by omega))
 refine ⟨p, h1, ?_, h3⟩
 unfold AllAt at h2 ⊢
 simp only [(along_like f w).before, (along_like f w).gone] at h2
 exact h2
theorem pos_lt {f : Flow} {w : List (List Int)} (h0 : 0 ≤ f.senders) {k : Nat} (hk : k ≤ f.lots.length) (hl : lotsB f k = true) (hw : WayOk f w k) {s : Nat} (hs : s < f.senders.toNat) :
  0 ≤ posW f w k s ∧ posW f w k s < beforeI f k ∧ goneB f (posW f w k s) k = false := by
 obtain ⟨p, h1, h2, h3⟩ := pos_all h0 hk hl hw
 rw [← h3 s hs]
 exact (h2.2 _).1 (nth_mem' (by omega))
theorem pos_inj {f : Flow} {w : List (List Int)} (h0 : 0 ≤ f.senders) {k : Nat} (hk : k ≤ f.lots.length) (hl : lotsB f k = true) (hw : WayOk f w k) {s t : Nat} (hs : s < f.senders.toNat) (ht : t < f.senders.toNat) (e : posW f w k s = posW f w k t) : s = t := by
 obtain ⟨p, h1, h2, h3⟩ := pos_all h0 hk hl hw
 rw [← h3 s hs, ← h3 t ht] at e
 exact nth_injC h2.1 (by omega) (by omega) e
theorem pos_hit {f : Flow} {w : List (List Int)} (h0 : 0 ≤ f.senders) {k : Nat} (hk : k ≤ f.lots.length) (hl : lotsB f k = true) (hw : WayOk f w k) {y : Int} (h1 : 0 ≤ y) (h2 : y < beforeI f k) (h3 : goneB f y k = false) : ∃ t, t < f.senders.toNat ∧ posW f w k t = y := by
 obtain ⟨p, q1, q2, q3⟩ := pos_all h0 hk hl hw
 obtain ⟨m, hm, e⟩ := List.mem_iff_getElem.1 ((q2.2 y).2 ⟨h1, h2, h3⟩)
 rw [q1] at hm
 exact ⟨m, hm, by rw [← q3 m hm, nth_lt (by omega)]; exact e⟩
def anyN (p : Nat → Bool) : Nat → Bool
 | 0 => false
 | n + 1 => anyN p n || p n
theorem anyN_iff {p : Nat → Bool} : ∀ {n : Nat}, anyN p n = true ↔ ∃ i, i < n ∧ p i = true
 | 0 => by simp [anyN]
 | n + 1 => by
  simp only [anyN, Bool.or_eq_true, anyN_iff (n := n)]
  constructor
  ·rintro (⟨i, a, b⟩ | h)
   ·exact ⟨i, by omega, b⟩
   ·exact ⟨n, by omega, h⟩
  ·rintro ⟨i, a, b⟩
   by_cases e : i = n
   ·subst e; exact .inr b
   ·exact .inl ⟨i, by omega, b⟩
/-- does a spot, ahead of the last m lots, lead to an end? -/
def rTo (f : Flow) : Nat → Int → Int → Bool
 | 0, s, e => s == e
 | m + 1, s, e =>
  if hasB (lotAt f.lots (f.lots.length - (m + 1))).ins s then
   if (lotAt f.lots (f.lots.length - (m + 1))).known then rTo f m (beforeI f (f.lots.length - (m + 1)) + nth (lotAt f.lots (f.lots.length - (m + 1))).perm ((lotAt f.lots (f.lots.length - (m + 1))).ins.idxOf s)) e
   else anyN (fun p => rTo f m (beforeI f (f.lots.length - (m + 1)) + p) e) (lotAt f.lots (f.lots.length - (m + 1))).ins.length
  else rTo f m s e
/-- does a spot, ahead of lot k, lead to an end? -/
def rAt (f : Flow) (k : Nat) (s e : Int) : Bool := rTo f (f.lots.length - k) s e
theorem rAt_last (f : Flow) (s e : Int) : rAt f f.lots.length s e = (s == e) := by unfold rAt; rw [Nat.sub_self]; rfl
theorem rAt_step {f : Flow} {k : Nat} (hk : k < f.lots.length) (s e : Int) : rAt f k s e =
  if hasB (lotAt f.lots k).ins s then (if (lotAt f.lots k).known then rAt f (k + 1) (beforeI f k + nth (lotAt f.lots k).perm ((lotAt f.lots k).ins.idxOf s)) e else anyN (fun p => rAt f (k + 1) (beforeI f k + p) e) (lotAt f.lots k).ins.length)
  else rAt f (k + 1) s e := by
 unfold rAt
 obtain ⟨m, hm⟩ : ∃ m, f.lots.length - k = m + 1 := ⟨f.lots.length - k - 1, by omega⟩
 have e1 : f.lots.length - (k + 1) = m := by omega
 have e2 : f.lots.length - (m + 1) = k := by omega
 rw [hm, e1]
 simp only [rTo, e2]
theorem rAt_stay {f : Flow} {k : Nat} (hk : k < f.lots.length) {s : Int} (h : hasB (lotAt f.lots k).ins s = false) (e : Int) : rAt f k s e = rAt f (k + 1) s e := by
 rw [rAt_step hk, h]; rfl
theorem rAt_skip {f : Flow} {i : Nat} {s : Int} (e : Int) : ∀ {k : Nat}, i ≤ k → k ≤ f.lots.length → (∀ j, i ≤ j → j < k → hasB (lotAt f.lots j).ins s = false) → rAt f i s e = rAt f k s e
 | 0, h1, _, _ => by
  obtain rfl : i = 0 := by omega
  rfl
 | k + 1, h1, h2, h3 => by
  by_cases hik : i = k + 1
  ·rw [hik]
  ·exact (rAt_skip e (by omega) (by omega) (fun j a b => h3 j a (by omega))).trans (rAt_stay (by omega) (h3 k (by omega) (by omega)) e)
theorem insE_lt {f : Flow} {m : Nat} (hl : lotsB f m = true) {j : Nat} (hj : j < m) {s : Int} (h : hasB (lotAt f.lots j).ins s = true) : 0 ≤ s ∧ s < beforeI f j ∧ goneB f s j = false :=
 (lotB_parts (lotsB_lot hl hj)).2.2.1 s (hasB_mem.1 h)
/-- spots behind lot k go into no lot before -/
theorem not_in {f : Flow} {m : Nat} (hl : lotsB f m = true) {k : Nat} {s : Int} (hs : beforeI f k ≤ s) {j : Nat} (hj : j ≤ k) (hjm : j < m) : hasB (lotAt f.lots j).ins s = false := by
 cases h : hasB (lotAt f.lots j).ins s with
 | false => rfl
 | true =>
  have h1 := (insE_lt hl hjm h).2.1
  have h2 := beforeI_mono (f := f) hj
  omega
theorem rAt_out {f : Flow} (hl : lotsB f f.lots.length = true) {k : Nat} (hk : k < f.lots.length) {s : Int} (hs : beforeI f k ≤ s) (e : Int) : rAt f 0 s e = rAt f (k + 1) s e :=
 rAt_skip e (by omega) (by omega) (fun j _ hj => not_in hl hs (by omega) (by omega))
/-- all letters of the way can still reach their ends -/
def GoodAt (f : Flow) (a : List Int) (w : List (List Int)) (k : Nat) : Prop := ∀ i, i < f.senders.toNat → rAt f k (posW f w k i) (nth a i) = true
theorem perm_row {f : Flow} {w : List (List Int)} {k : Nat} (hl : lotsB f f.lots.length = true) (hk : k < f.lots.length) (hw : WayOk f w (k + 1)) : (rowAt w k).length = (lotAt f.lots k).ins.length ∧ ∀ q, q < (lotAt f.lots k).ins.length → 0 ≤ nth (rowAt w k) q ∧ nth (rowAt w k) q < (lotAt f.lots k).ins.length := by
 have hp := permB_parts (permsOf_perm (lotsB_lot hl hk) (hw k (by omega)))
 exact ⟨hp.2.1, fun q hq => hp.1 _ (nth_mem' (by omega))⟩
theorem reach_back {f : Flow} {a : List Int} {w : List (List Int)} {k : Nat} (hl : lotsB f f.lots.length = true) (hk : k < f.lots.length) (hw : WayOk f w (k + 1)) {i : Nat} (h : rAt f (k + 1) (posW f w (k + 1) i) (nth a i) = true) : rAt f k (posW f w k i) (nth a i) = true := by
 rw [rAt_step hk]
 rw [pos_step hk] at h
 by_cases hh : hasB (lotAt f.lots k).ins (posW f w k i) = true
 ·rw [if_pos hh] at h ⊢
  by_cases hkn : (lotAt f.lots k).known = true
  ·rw [if_pos hkn]
   have : rowAt w k = (lotAt f.lots k).perm := by
    have := hw k (by omega)
    unfold permsOf at this
    rw [if_pos hkn] at this
    simpa using this
   rw [this] at h
   exact h
  ·rw [if_neg hkn]
   have hi : (lotAt f.lots k).ins.idxOf (posW f w k i) < (lotAt f.lots k).ins.length := List.idxOf_lt_length_of_mem (hasB_mem.1 hh)
   have hp := (perm_row hl hk hw).2 _ hi
   refine anyN_iff.2 ⟨(nth (rowAt w k) ((lotAt f.lots k).ins.idxOf (posW f w k i))).toNat, by omega, ?_⟩
   have e : (((nth (rowAt w k) ((lotAt f.lots k).ins.idxOf (posW f w k i))).toNat : Nat) : Int) = nth (rowAt w k) ((lotAt f.lots k).ins.idxOf (posW f w k i)) := Int.toNat_of_nonneg hp.1
   simp only [e]
   exact h
 ·rw [if_neg hh] at h ⊢
  exact h
theorem good_back {f : Flow} {a : List Int} {w : List (List Int)} {k : Nat} (hl : lotsB f f.lots.length = true) (hk : k < f.lots.length) (hw : WayOk f w (k + 1)) (h : GoodAt f a w (k + 1)) : GoodAt f a w k := fun i hi => reach_back hl hk hw (h i hi)
/-- the letters that go into the lot decide -/
theorem good_step {f : Flow} {a : List Int} {w : List (List Int)} {k : Nat} (hk : k < f.lots.length) (h : GoodAt f a w k) : GoodAt f a w (k + 1) ↔ ∀ i, i < f.senders.toNat → hasB (lotAt f.lots k).ins (posW f w k i) = true → rAt f (k + 1) (posW f w (k + 1) i) (nth a i) = true := by
 constructor
 ·exact fun hg i hi _ => hg i hi
 ·intro hg i hi
  by_cases hh : hasB (lotAt f.lots k).ins (posW f w k i) = true
  ·exact hg i hi hh
  ·have h1 := h i hi
   rw [rAt_stay hk (by simpa using hh)] at h1
   rw [pos_step hk, if_neg hh]
   exact h1
theorem good_end {f : Flow} {a : List Int} {w : List (List Int)} (ha : a.length = f.senders.toNat) : GoodAt f a w f.lots.length ↔ mapL (alongF f w) = a := by
 have hlen : (mapL (alongF f w)).length = f.senders.toNat := mapL_len _
 have hpos : ∀ i, i < f.senders.toNat → nth (mapL (alongF f w)) i = posW f w f.lots.length i := fun i hi => by
  rw [mapL_at (f := alongF f w) hi, along_len]
  rfl
 constructor
 ·intro h
  refine ext_nth (by rw [hlen, ha]) (fun i hi => ?_)
  rw [hlen] at hi
  have := h i hi
  rw [rAt_last] at this
  rw [hpos i hi]
  exact beq_iff_eq.1 this
 ·intro h i hi
  rw [rAt_last, ← h, hpos i hi]
  exact beq_self_eq_true _
end Go.Proofs.Yteiaeaciaglmgaa
set_option linter.unusedVariables false
set_option linter.unusedSimpArgs false
namespace Go.Proofs.Yteiaeaciaglmgaa
def wayI (n : Int) : Nat → Int
 | 0 => n
 | i + 1 => min (wayI n i * ((i : Int) + 1)) 5041
def waysI (f : Flow) : Nat → Int
 | 0 => 1
 | k + 1 => if (lotAt f.lots k).known then waysI f k else wayI (waysI f k) (lotAt f.lots k).ins.length
theorem wayI_bd {n : Int} (h1 : 1 ≤ n) (h2 : n ≤ 5041) : ∀ i, 1 ≤ wayI n i ∧ wayI n i ≤ 5041
 | 0 => ⟨h1, h2⟩
 | i + 1 => by
  obtain ⟨a, b⟩ := wayI_bd h1 h2 i
  have h : 1 ≤ wayI n i * ((i : Int) + 1) := by
   have h1 := Int.mul_pos (a := wayI n i) (b := (i : Int) + 1) (by omega) (by omega)
   omega
  simp only [wayI]
  omega
theorem waysI_bd (f : Flow) : ∀ k, 1 ≤ waysI f k ∧ waysI f k ≤ 5041
 | 0 => by simp [waysI]
 | k + 1 => by
  obtain ⟨a, b⟩ := waysI_bd f k
  simp only [waysI]
  split
  ·exact ⟨a, b⟩
  ·exact wayI_bd a b _
theorem wayI_one {n : Int} (h2 : n ≤ 5041) : wayI n 1 = n := by
 show min (n * (((0 : Nat) : Int) + 1)) 5041 = n
 simp
 omega
/-- the error of all functions -/
def errX (f : Flow) (a : List Int) : Int := if checkE f ≠ 0 then checkE f else if 5040 < waysI f f.lots.length then 2 else if (a.length : Int) ≠ f.senders then 1 else 0
theorem errX_ok {f : Flow} {a : List Int} (h : errX f a = 0) : checkE f = 0 ∧ waysI f f.lots.length ≤ 5040 ∧ (a.length : Int) = f.senders := by
 unfold errX at h
 split at h
 ·rename_i hc; exact absurd h hc
 ·rename_i hc
  split at h
  ·omega
  ·split at h
   ·omega
   ·rename_i h1 h2
    exact ⟨by simpa using hc, by omega, by omega⟩
def leadsB (f : Flow) (a : List Int) (w : List (List Int)) : Bool := sameB (mapL (alongF f w)) a
def findM (f : Flow) (a : List Int) : Nat → List (List Int) → Option (List (List Int))
 | 0, w => if leadsB f a w then some w else none
 | m + 1, w => (permsOf (lotAt f.lots (f.lots.length - (m + 1)))).findSome? fun p => findM f a m (w ++ [p])
theorem rowAt_app {w : List (List Int)} {p : List Int} {j : Nat} : rowAt (w ++ [p]) j = if j < w.length then rowAt w j else if j = w.length then p else [] := by
 unfold rowAt
 rw [List.getD_eq_getElem?_getD, List.getD_eq_getElem?_getD, List.getElem?_append]
 by_cases h : j < w.length
 ·rw [if_pos h, if_pos h]
 ·rw [if_neg h, if_neg h]
  by_cases e : j = w.length
  ·subst e; simp
  ·rw [if_neg e, List.getElem?_eq_none (by simp; omega)]; rfl
theorem way_app {f : Flow} {w : List (List Int)} {p : List Int} {k : Nat} (hk : w.length = k) (hw : WayOk f w k) (hp : p ∈ permsOf (lotAt f.lots k)) : WayOk f (w ++ [p]) (k + 1) := fun j hj => by
 rw [rowAt_app]
 by_cases e : j < w.length
 ·rw [if_pos e]; exact hw j (by omega)
 ·obtain rfl : j = k := by omega
  rw [if_neg e, if_pos (by omega)]; exact hp
/-- what is found goes on from what is given, and leads to the list -/
theorem find_some {f : Flow} {a : List Int} : ∀ {m : Nat} {w v : List (List Int)}, m ≤ f.lots.length → w.length = f.lots.length - m → WayOk f w (f.lots.length - m) → findM f a m w = some v →
  v.length = f.lots.length ∧ WayOk f v f.lots.length ∧ leadsB f a v = true ∧ ∀ j, j < w.length → rowAt v j = rowAt w j
 | 0, w, v, hm, hw, ho, h => by
  simp only [findM] at h
  split at h
  ·rename_i hl
   cases h
   exact ⟨by omega, by simpa using ho, hl, fun j hj => rfl⟩
  ·cases h
 | m + 1, w, v, hm, hw, ho, h => by
  simp only [findM] at h
  obtain ⟨p, hp, h⟩ := List.exists_of_findSome?_eq_some h
  have e : f.lots.length - (m + 1) + 1 = f.lots.length - m := by omega
  obtain ⟨r1, r2, r3, r4⟩ := find_some (by omega) (by simp; omega) (by have := way_app hw ho hp; rw [e] at this; exact this) h
  refine ⟨r1, r2, r3, fun j hj => ?_⟩
  rw [r4 j (by simp; omega), rowAt_app, if_pos hj]
theorem good_all {f : Flow} {a : List Int} (hc : checkE f = 0) {w : List (List Int)} (hw : WayOk f w f.lots.length) (h : GoodAt f a w f.lots.length) : ∀ k, k ≤ f.lots.length → GoodAt f a w k := by
 obtain ⟨_, _, _, _, hl⟩ := checkE_ok hc
 have key : ∀ m, m ≤ f.lots.length → GoodAt f a w (f.lots.length - m) := fun m => by
  induction m with
  | zero => intro _; exact h
  | succ m ih =>
   intro hm
   have h1 := ih (by omega)
   rw [show f.lots.length - m = f.lots.length - (m + 1) + 1 by omega] at h1
   exact good_back hl (by omega) (hw.le (by omega)) h1
 intro k hk
 have := key (f.lots.length - k) (by omega)
 rwa [show f.lots.length - (f.lots.length - k) = k by omega] at this
section
variable {f : Flow} {a : List Int} (hc : checkE f = 0) (ha : (a.length : Int) = f.senders)
include hc ha
theorem leads_good {w : List (List Int)} : leadsB f a w = true ↔ GoodAt f a w f.lots.length := by
 obtain ⟨h0, _⟩ := checkE_ok hc
 rw [good_end (by omega)]
 unfold leadsB
 exact decide_eq_true_iff
/-- where a letter cannot reach its end any more, nothing is found -/
theorem find_none {m : Nat} {w : List (List Int)} (hm : m ≤ f.lots.length) (hw : w.length = f.lots.length - m) (ho : WayOk f w (f.lots.length - m)) (h : ¬ GoodAt f a w (f.lots.length - m)) : findM f a m w = none := by
 cases e : findM f a m w with
 | none => rfl
 | some v =>
  exfalso
  obtain ⟨r1, r2, r3, r4⟩ := find_some hm hw ho e
  have h1 := good_all hc r2 ((leads_good hc ha).1 r3) (f.lots.length - m) (by omega)
  exact h (fun i hi => by rw [pos_same (w := w) (w' := v) (by omega) (fun j hj => (r4 j (by omega)).symm) i]; exact h1 i hi)
end
def allN (p : Nat → Bool) : Nat → Bool
 | 0 => true
 | n + 1 => allN p n && p n
theorem allN_iff {p : Nat → Bool} : ∀ {n : Nat}, allN p n = true ↔ ∀ i, i < n → p i = true
 | 0 => by simp [allN]
 | n + 1 => by
  simp only [allN, Bool.and_eq_true, allN_iff (n := n)]
  constructor
  ·rintro ⟨h1, h2⟩ i hi
   by_cases e : i = n
   ·subst e; exact h2
   ·exact h1 i (by omega)
  ·exact fun h => ⟨fun i hi => h i (by omega), h n (by omega)⟩
/-- is a list a way of a flow? -/
def isB (f : Flow) (w : List (List Int)) : Bool := decide (w.length = f.lots.length) && allN (fun k => permB (rowAt w k) (lotAt f.lots k).ins.length && (!(lotAt f.lots k).known || sameB (rowAt w k) (lotAt f.lots k).perm)) f.lots.length
theorem isB_iff {f : Flow} (hl : lotsB f f.lots.length = true) {w : List (List Int)} : isB f w = true ↔ w.length = f.lots.length ∧ WayOk f w f.lots.length := by
 unfold isB
 rw [Bool.and_eq_true, decide_eq_true_eq, allN_iff]
 refine and_congr Iff.rfl (forall_congr' fun k => forall_congr' fun hk => ?_)
 obtain ⟨_, _, _, q4, _⟩ := lotB_parts (lotsB_lot hl hk)
 unfold permsOf
 rw [Bool.and_eq_true, Bool.or_eq_true, Bool.not_eq_true']
 cases hkn : (lotAt f.lots k).known with
 | true =>
  rw [if_pos rfl, List.mem_singleton]
  constructor
  ·rintro ⟨_, h | h⟩
   ·cases h
   ·exact of_decide_eq_true h
  ·intro h
   rw [h]
   exact ⟨q4 hkn, .inr (decide_eq_true rfl)⟩
 | false =>
  rw [if_neg (by decide), mem_permsL]
  exact ⟨fun h => h.1, fun h => ⟨h, .inl rfl⟩⟩
def rightW (f : Flow) (a : List Int) (w : List (List Int)) : Bool := decide (errX f a = 0) && (isB f w && leadsB f a w)
def makeO (f : Flow) (a : List Int) : Option (List (List Int)) := if errX f a = 0 then findM f a f.lots.length [] else none
def makeR (f : Flow) (a : List Int) : List (List Int) := (makeO f a).getD []
def makeB (f : Flow) (a : List Int) : Bool := (makeO f a).isSome
end Go.Proofs.Yteiaeaciaglmgaa
set_option linter.unusedVariables false
set_option linter.unusedSimpArgs false
namespace Go.Proofs.Yteiaeaciaglmgaa
inductive Den where
 | mk (lot inn : Int) (kids : List Den) (sender : Int)
instance : Inhabited Den := ⟨.mk 0 0 [] 0⟩
def Den.lot : Den → Int | .mk l _ _ _ => l
def Den.inn : Den → Int | .mk _ i _ _ => i
def Den.kids : Den → List Den | .mk _ _ k _ => k
def Den.sender : Den → Int | .mk _ _ _ s => s
def leafD (i : Int) : Den := .mk (-1) 0 [] i
def noD : Den := .mk 0 0 [] 0
def denAt (l : List Den) (j : Nat) : Den := l.getD j default
/-- known lots, and lots all of whose inputs are decided, are done; m: how many lots are left -/
def settleM (f : Flow) : Nat → List (List Int) → List Int → List (List Int) × List Int
 | 0, w, part => (w, part)
 | m + 1, w, part =>
  if (lotAt f.lots (f.lots.length - (m + 1))).known then settleM f m (w ++ [(lotAt f.lots (f.lots.length - (m + 1))).perm]) []
  else if part.length < (lotAt f.lots (f.lots.length - (m + 1))).ins.length then (w, part)
  else settleM f m (w ++ [part]) []
def settleS (f : Flow) (w : List (List Int)) (part : List Int) : List (List Int) × List Int := settleM f (f.lots.length - w.length) w part
/-- where a sender's letter is, if the first inputs of the next lot are decided as well -/
def posS (f : Flow) (w : List (List Int)) (part : List Int) (i : Nat) : Int := mvI ((lotAt f.lots w.length).ins.take part.length) part (beforeI f w.length) (posW f w w.length i)
/-- the least number below n of a kind; -1 if there is none -/
def leastN (p : Nat → Bool) : Nat → Int
 | 0 => -1
 | n + 1 => if 0 ≤ leastN p n then leastN p n else if p n then (n : Int) else -1
theorem leastN_bd (p : Nat → Bool) : ∀ n, -1 ≤ leastN p n ∧ leastN p n < n
 | 0 => by simp [leastN]
 | n + 1 => by
  have := leastN_bd p n
  simp only [leastN]
  split
  ·omega
  ·split <;> omega
theorem leastN_neg {p : Nat → Bool} : ∀ {n}, leastN p n < 0 → ∀ i, i < n → p i = false
 | 0, _, i, hi => by omega
 | n + 1, h, i, hi => by
  simp only [leastN] at h
  split at h
  ·omega
  ·rename_i h1
   split at h
   ·omega
   ·rename_i h2
    by_cases e : i = n
    ·subst e; simpa using h2
    ·exact leastN_neg (n := n) (by omega) i (by omega)
theorem leastN_pos {p : Nat → Bool} : ∀ {n}, 0 ≤ leastN p n → ∃ i : Nat, leastN p n = i ∧ i < n ∧ p i = true ∧ ∀ j, j < i → p j = false
 | 0, h => by simp [leastN] at h
 | n + 1, h => by
  simp only [leastN] at h ⊢
  by_cases h1 : 0 ≤ leastN p n
  ·rw [if_pos h1]
   obtain ⟨i, a, b, c, d⟩ := leastN_pos h1
   exact ⟨i, a, by omega, c, d⟩
  ·rw [if_neg h1] at h ⊢
   split at h
   ·rename_i h2
    rw [if_pos h2]
    exact ⟨n, rfl, by omega, h2, fun j hj => leastN_neg (n := n) (by omega) j hj⟩
   ·omega
def badB (f : Flow) (a : List Int) (w : List (List Int)) (part : List Int) (i : Nat) : Bool := !rAt f 0 (posS f w part i) (nth a i)
def stuckI (f : Flow) (a : List Int) (w : List (List Int)) (part : List Int) : Int := leastN (badB f a w part) f.senders.toNat
/-- what the children of a denial are, for the free places below i -/
def kidsTo (g : Int → Option Den) (part : List Int) : Nat → Option (List Den)
 | 0 => some []
 | i + 1 => if hasB part (i : Int) then kidsTo g part i else match kidsTo g part i, g (i : Int) with
  | some l, some d => some (l ++ [d])
  | _, _ => none
def denyN (f : Flow) (a : List Int) : Nat → List (List Int) → List Int → Option Den
 | 0, w, part => if 0 ≤ stuckI f a (settleS f w part).1 (settleS f w part).2 then some (leafD (stuckI f a (settleS f w part).1 (settleS f w part).2)) else none
 | n + 1, w, part =>
  if 0 ≤ stuckI f a (settleS f w part).1 (settleS f w part).2 then some (leafD (stuckI f a (settleS f w part).1 (settleS f w part).2))
  else if (settleS f w part).1.length = f.lots.length then none
  else match kidsTo (fun i => denyN f a n (settleS f w part).1 ((settleS f w part).2 ++ [i])) (settleS f w part).2 (lotAt f.lots (settleS f w part).1.length).ins.length with
   | some l => some (.mk ((settleS f w part).1.length : Nat) ((settleS f w part).2.length : Nat) l 0)
   | none => none
/-- how many places below i are free -/
def freeK (part : List Int) : Nat → Nat
 | 0 => 0
 | i + 1 => if hasB part (i : Int) then freeK part i else freeK part i + 1
def rkTo (g : Int → Den → Bool) (part : List Int) (kids : List Den) : Nat → Bool
 | 0 => true
 | i + 1 => rkTo g part kids i && (hasB part (i : Int) || g (i : Int) (denAt kids (freeK part i)))
def rightN (f : Flow) (a : List Int) : Nat → List (List Int) → List Int → Den → Bool
 | n, w, part, p =>
  if p.lot = -1 then decide (p.inn = 0) && (decide (p.kids.length = 0) && (decide (0 ≤ p.sender) && (decide (p.sender < f.senders) && badB f a (settleS f w part).1 (settleS f w part).2 p.sender.toNat)))
  else decide ((settleS f w part).1.length < f.lots.length) && (decide (p.lot = ((settleS f w part).1.length : Nat)) && (decide (p.inn = ((settleS f w part).2.length : Nat)) && (decide (p.sender = 0) &&
   (decide ((p.kids.length : Int) = (lotAt f.lots (settleS f w part).1.length).ins.length - (settleS f w part).2.length) &&
    (match n with
     | 0 => false
     | n + 1 => rkTo (fun i d => rightN f a n (settleS f w part).1 ((settleS f w part).2 ++ [i]) d) (settleS f w part).2 p.kids (lotAt f.lots (settleS f w part).1.length).ins.length)))))
/-- how many inputs of unknown lots there are from lot k on -/
def undM (f : Flow) : Nat → Nat
 | 0 => 0
 | m + 1 => if (lotAt f.lots (f.lots.length - (m + 1))).known then undM f m else (lotAt f.lots (f.lots.length - (m + 1))).ins.length + undM f m
def undS (f : Flow) (w : List (List Int)) (part : List Int) : Nat := undM f (f.lots.length - w.length) - part.length
def denyO (f : Flow) (a : List Int) : Option Den := if errX f a = 0 then denyN f a (undM f f.lots.length) [] [] else none
def denyR (f : Flow) (a : List Int) : Den := (denyO f a).getD noD
def denyB (f : Flow) (a : List Int) : Bool := (denyO f a).isSome
def refutesB (f : Flow) (a : List Int) (p : Den) : Bool := decide (errX f a = 0) && rightN f a (undM f f.lots.length) [] [] p
structure StOk (f : Flow) (w : List (List Int)) (part : List Int) : Prop where
 len : w.length ≤ f.lots.length
 way : WayOk f w w.length
 fit : part.length ≤ (lotAt f.lots w.length).ins.length
 nodup : part.Nodup
 low : ∀ x ∈ part, 0 ≤ x ∧ x < ((lotAt f.lots w.length).ins.length : Int)
 known : (lotAt f.lots w.length).known = true → part = []
theorem StOk.start (f : Flow) : StOk f [] [] := ⟨by simp, fun j hj => by simp at hj, by simp, List.nodup_nil, (fun x hx => by cases hx), (fun _ => rfl)⟩
theorem StOk.perm {f : Flow} {w : List (List Int)} {part : List Int} (h : StOk f w part) (he : part.length = (lotAt f.lots w.length).ins.length) : permB part ((lotAt f.lots w.length).ins.length : Int) = true := by
 unfold permB inB diffB
 simp only [Bool.and_eq_true, decide_eq_true_eq, List.all_eq_true]
 exact ⟨h.low, by omega, h.nodup⟩
theorem StOk.nextK {f : Flow} {w : List (List Int)} {part : List Int} (h : StOk f w part) (hk : w.length < f.lots.length) (hkn : (lotAt f.lots w.length).known = true) : StOk f (w ++ [(lotAt f.lots w.length).perm]) [] :=
 ⟨by simp; omega, by simpa using way_app rfl h.way (by unfold permsOf; rw [if_pos hkn]; simp), by simp, List.nodup_nil, (fun x hx => by cases hx), (fun _ => rfl)⟩
theorem StOk.nextU {f : Flow} {w : List (List Int)} {part : List Int} (h : StOk f w part) (hk : w.length < f.lots.length) (hkn : (lotAt f.lots w.length).known = false) (he : part.length = (lotAt f.lots w.length).ins.length) : StOk f (w ++ [part]) [] :=
 ⟨by simp; omega, by simpa using way_app rfl h.way (by unfold permsOf; rw [if_neg (by simp [hkn])]; exact mem_permsL.2 (h.perm he)), by simp, List.nodup_nil, (fun x hx => by cases hx), (fun _ => rfl)⟩
theorem StOk.more {f : Flow} {w : List (List Int)} {part : List Int} (h : StOk f w part) (hkn : (lotAt f.lots w.length).known = false) (hp : part.length < (lotAt f.lots w.length).ins.length) {i : Nat} (hi : i < (lotAt f.lots w.length).ins.length) (hn : hasB part (i : Int) = false) : StOk f w (part ++ [(i : Int)]) :=
 ⟨h.len, h.way, by simp; omega, List.nodup_append.2 ⟨h.nodup, by simp, fun y hy z hz e => by
  obtain rfl := List.mem_singleton.1 hz
  subst e
  rw [hasB_mem.2 hy] at hn
  cases hn⟩, (fun x hx => by
  rcases List.mem_append.1 hx with hx | hx
  ·exact h.low x hx
  ·obtain rfl := List.mem_singleton.1 hx; omega), (fun e => by rw [hkn] at e; cases e)⟩
/-- v goes on from a state -/
structure Comp (f : Flow) (w : List (List Int)) (part : List Int) (v : List (List Int)) : Prop where
 len : v.length = f.lots.length
 way : WayOk f v f.lots.length
 row : ∀ j, j < w.length → rowAt v j = rowAt w j
 pre : w.length < f.lots.length → ∀ j, j < part.length → nth (rowAt v w.length) j = nth part j
/-- settled states -/
structure Settled (f : Flow) (w : List (List Int)) (part : List Int) (s : List (List Int) × List Int) : Prop where
 ok : StOk f s.1 s.2
 comp : ∀ v, Comp f w part v ↔ Comp f s.1 s.2 v
 end' : s.1.length = f.lots.length ∧ s.2 = [] ∨ s.1.length < f.lots.length ∧ (lotAt f.lots s.1.length).known = false ∧ s.2.length < (lotAt f.lots s.1.length).ins.length
 und : undS f s.1 s.2 ≤ undS f w part
theorem und_app {f : Flow} {w : List (List Int)} {p : List Int} (hk : w.length < f.lots.length) : undM f (f.lots.length - w.length) = (if (lotAt f.lots w.length).known then 0 else (lotAt f.lots w.length).ins.length) + undM f (f.lots.length - (w ++ [p]).length) := by
 obtain ⟨m, hm⟩ : ∃ m, f.lots.length - w.length = m + 1 := ⟨f.lots.length - w.length - 1, by omega⟩
 have e1 : f.lots.length - (w ++ [p]).length = m := by simp; omega
 have e2 : f.lots.length - (m + 1) = w.length := by omega
 rw [hm, e1]
 simp only [undM, e2]
 split <;> omega
theorem settle_ok {f : Flow} (hl : lotsB f f.lots.length = true) : ∀ (m : Nat) (w : List (List Int)) (part : List Int), w.length + m = f.lots.length → StOk f w part → Settled f w part (settleM f m w part)
 | 0, w, part, hm, h => by
  have hp : part = [] := by
   have := h.fit
   rw [lotAt_out (by omega)] at this
   exact List.eq_nil_of_length_eq_zero (by simpa using this)
  exact ⟨h, fun v => Iff.rfl, .inl ⟨by simpa [settleM] using hm, by simpa [settleM] using hp⟩, Nat.le_refl _⟩
 | m + 1, w, part, hm, h => by
  have e : f.lots.length - (m + 1) = w.length := by omega
  simp only [settleM, e]
  cases hkn : (lotAt f.lots w.length).known with
  | true =>
   rw [if_pos rfl]
   have hp := h.known hkn
   subst hp
   have ih := settle_ok hl m (w ++ [(lotAt f.lots w.length).perm]) [] (by simp; omega) (h.nextK (by omega) hkn)
   refine ⟨ih.ok, fun v => (Iff.trans ?_ (ih.comp v)), ih.end', Nat.le_trans ih.und ?_⟩
   ·constructor
    ·intro c
     refine ⟨c.len, c.way, fun j hj => ?_, fun _ j hj => by simp at hj⟩
     rw [rowAt_app]
     by_cases e2 : j < w.length
     ·rw [if_pos e2]; exact c.row j e2
     ·simp at hj
      obtain rfl : j = w.length := by omega
      rw [if_neg e2, if_pos rfl]
      have := c.way w.length (by omega)
      unfold permsOf at this
      rw [if_pos hkn] at this
      simpa using this
    ·intro c
     refine ⟨c.len, c.way, fun j hj => ?_, fun _ j hj => by simp at hj⟩
     have := c.row j (by simp; omega)
     rw [rowAt_app, if_pos hj] at this
     exact this
   ·unfold undS
    rw [und_app (f := f) (w := w) (p := (lotAt f.lots w.length).perm) (by omega), hkn]
    simp
  | false =>
   rw [if_neg (by decide)]
   by_cases hp : part.length < (lotAt f.lots w.length).ins.length
   ·rw [if_pos hp]
    exact ⟨h, fun v => Iff.rfl, .inr ⟨by show w.length < _; omega, hkn, hp⟩, Nat.le_refl _⟩
   ·rw [if_neg hp]
    have he : part.length = (lotAt f.lots w.length).ins.length := by have := h.fit; omega
    have ih := settle_ok hl m (w ++ [part]) [] (by simp; omega) (h.nextU (by omega) hkn he)
    refine ⟨ih.ok, fun v => (Iff.trans ?_ (ih.comp v)), ih.end', Nat.le_trans ih.und ?_⟩
    ·constructor
     ·intro c
      refine ⟨c.len, c.way, fun j hj => ?_, fun _ j hj => by simp at hj⟩
      rw [rowAt_app]
      by_cases e2 : j < w.length
      ·rw [if_pos e2]; exact c.row j e2
      ·simp at hj
       obtain rfl : j = w.length := by omega
       rw [if_neg e2, if_pos rfl]
       have h1 := permB_parts (permsOf_perm (lotsB_lot hl (by omega)) (c.way w.length (by omega)))
       exact ext_nth (by rw [h1.2.1, he]) (fun i hi => c.pre (by omega) i (by rw [h1.2.1] at hi; omega))
     ·intro c
      refine ⟨c.len, c.way, fun j hj => ?_, fun _ j hj => ?_⟩
      ·have := c.row j (by simp; omega)
       rw [rowAt_app, if_pos hj] at this
       exact this
      ·have := c.row w.length (by simp)
       rw [rowAt_app, if_neg (by omega), if_pos rfl] at this
       rw [this]
    ·unfold undS
     rw [und_app (f := f) (w := w) (p := part) (by omega), hkn]
     simp
     omega
end Go.Proofs.Yteiaeaciaglmgaa
set_option linter.unusedVariables false
set_option linter.unusedSimpArgs false
namespace Go.Proofs.Yteiaeaciaglmgaa
theorem take_idx {l : List Int} (hn : l.Nodup) {n : Nat} (hl : n ≤ l.length) {x : Int} (h : hasB (l.take n) x = true) : (l.take n).idxOf x < n ∧ (l.take n).idxOf x = l.idxOf x ∧ hasB l x = true := by
 obtain ⟨j, hj, e⟩ := List.mem_iff_getElem.1 (hasB_mem.1 h)
 rw [List.length_take] at hj
 rw [List.getElem_take] at e
 have e2 : x = nth l j := by rw [nth_lt (by omega)]; exact e.symm
 have h1 := idx_take hn (show j < n by omega) hl
 have h2 := idx_take hn (show j < l.length by omega) (Nat.le_refl _)
 rw [List.take_length] at h2
 rw [e2, h1.1, h2.1]
 exact ⟨by omega, rfl, h2.2⟩
theorem nth_snoc (l : List Int) (x : Int) : nth (l ++ [x]) l.length = x := by
 unfold nth
 rw [List.getD_eq_getElem?_getD, List.getElem?_append_right (Nat.le_refl _)]
 simp
theorem posS_end {f : Flow} {w : List (List Int)} {part : List Int} (h : f.lots.length ≤ w.length) (i : Nat) : posS f w part i = posW f w w.length i := by
 unfold posS mvI
 rw [lotAt_out h]
 simp [hasB]
theorem und_pos {f : Flow} {w : List (List Int)} {part : List Int} (hk : w.length < f.lots.length) (hkn : (lotAt f.lots w.length).known = false) (hp : part.length < (lotAt f.lots w.length).ins.length) (i : Int) : undS f w (part ++ [i]) + 1 ≤ undS f w part := by
 unfold undS
 rw [und_app (f := f) (w := w) (p := part) hk, hkn]
 simp
 omega
theorem kidsTo_none {g : Int → Option Den} {part : List Int} : ∀ {n : Nat}, kidsTo g part n = none ↔ ∃ i : Nat, i < n ∧ hasB part (i : Int) = false ∧ g (i : Int) = none
 | 0 => by simp [kidsTo]
 | n + 1 => by
  have ih := kidsTo_none (g := g) (part := part) (n := n)
  simp only [kidsTo]
  cases hh : hasB part (n : Int) with
  | true =>
   rw [if_pos rfl, ih]
   constructor
   ·rintro ⟨i, a, b⟩; exact ⟨i, by omega, b⟩
   ·rintro ⟨i, a, b, c⟩
    have : i ≠ n := fun e => by subst e; rw [hh] at b; cases b
    exact ⟨i, by omega, b, c⟩
  | false =>
   rw [if_neg (by decide)]
   cases hk : kidsTo g part n with
   | none =>
    obtain ⟨i, a, b⟩ := ih.1 hk
    simp only [true_iff]
    exact ⟨i, by omega, b⟩
   | some l =>
    cases hg : g (n : Int) with
    | none =>
     simp only [true_iff]
     exact ⟨n, by omega, hh, hg⟩
    | some d =>
     simp only [reduceCtorEq, false_iff]
     rintro ⟨i, a, b, c⟩
     by_cases e : i = n
     ·subst e; rw [hg] at c; cases c
     ·have := ih.2 ⟨i, by omega, b, c⟩
      rw [hk] at this; cases this
theorem freeK_mono (part : List Int) {i j : Nat} (h : i ≤ j) : freeK part i ≤ freeK part j := by
 induction h with
 | refl => exact Nat.le_refl _
 | step _ ih =>
  simp only [freeK]
  split <;> omega
theorem rkTo_iff {g : Int → Den → Bool} {part : List Int} {kids : List Den} : ∀ {n : Nat}, rkTo g part kids n = true ↔ ∀ i : Nat, i < n → hasB part (i : Int) = false → g (i : Int) (denAt kids (freeK part i)) = true
 | 0 => by simp [rkTo]
 | n + 1 => by
  simp only [rkTo, Bool.and_eq_true, Bool.or_eq_true, rkTo_iff (n := n)]
  constructor
  ·rintro ⟨h1, h2⟩ i hi hn
   by_cases e : i = n
   ·subst e
    rcases h2 with h2 | h2
    ·rw [hn] at h2; cases h2
    ·exact h2
   ·exact h1 i (by omega) hn
  ·intro h
   refine ⟨fun i hi hn => h i (by omega) hn, ?_⟩
   cases hh : hasB part (n : Int) with
   | true => exact .inl rfl
   | false => exact .inr (h n (by omega) hh)
theorem free_all {part : List Int} (hn : part.Nodup) : ∀ n : Nat, freeK part n + (part.filter fun x => decide (0 ≤ x ∧ x < (n : Int))).length = n
 | 0 => by
  simp only [freeK]
  rw [List.filter_eq_nil_iff.2 (fun x _ => by rw [decide_eq_true_eq]; omega)]
  rfl
 | n + 1 => by
  have ih := free_all hn n
  have hsplit : (part.filter fun x => decide (0 ≤ x ∧ x < ((n + 1 : Nat) : Int))).length = (part.filter fun x => decide (0 ≤ x ∧ x < (n : Int))).length + (if hasB part (n : Int) then 1 else 0) := by
   clear ih
   induction part with
   | nil => simp [hasB]
   | cons y t iht =>
    have hnt := List.nodup_cons.1 hn
    have ih := iht hnt.2
    have e : hasB (y :: t) (n : Int) = (y == (n : Int) || hasB t (n : Int)) := by
     rw [Bool.eq_iff_iff, Bool.or_eq_true, hasB_mem, hasB_mem, List.mem_cons, beq_iff_eq]
     exact or_congr eq_comm Iff.rfl
    rw [List.filter_cons, List.filter_cons, e]
    by_cases hy : y = (n : Int)
    ·subst hy
     have hf : hasB t (n : Int) = false := by
      cases h : hasB t (n : Int) with
      | false => rfl
      | true => exact absurd (hasB_mem.1 h) hnt.1
     rw [hf] at ih
     rw [if_pos (decide_eq_true (by omega)), if_neg (by rw [decide_eq_true_eq]; omega), hf]
     simp only [List.length_cons, beq_self_eq_true, Bool.true_or, if_true]
     rw [if_neg (by decide)] at ih
     omega
    ·have e1 : (y == (n : Int)) = false := beq_eq_false_iff_ne.2 hy
     rw [e1, Bool.false_or]
     by_cases hr : 0 ≤ y ∧ y < (n : Int)
     ·rw [if_pos (decide_eq_true ⟨hr.1, by omega⟩), if_pos (decide_eq_true hr)]
      simp only [List.length_cons]
      omega
     ·rw [if_neg (by rw [decide_eq_true_eq]; omega), if_neg (by simpa using hr)]
      exact ih
  simp only [freeK]
  rw [hsplit]
  cases hasB part (n : Int) with
  | true => rw [if_pos rfl, if_pos rfl]; omega
  | false => rw [if_neg (by decide), if_neg (by decide)]; omega
theorem free_len {part : List Int} {n : Nat} (hn : part.Nodup) (hl : ∀ x ∈ part, 0 ≤ x ∧ x < (n : Int)) : freeK part n + part.length = n := by
 have h := free_all hn n
 rw [List.filter_eq_self.2 (fun x hx => decide_eq_true (hl x hx))] at h
 exact h
end Go.Proofs.Yteiaeaciaglmgaa
set_option linter.unusedVariables false
set_option linter.unusedSimpArgs false
namespace Go.Proofs.Yteiaeaciaglmgaa
theorem err_make {f : Flow} {a : List Int} (he : errX f a ≠ 0) : makeB f a = false ∧ makeR f a = [] ∧ denyB f a = false ∧ denyR f a = noD := by
 unfold makeB makeR makeO denyB denyR denyO
 rw [if_neg he, if_neg he]
 exact ⟨rfl, rfl, rfl, rfl⟩
end Go.Proofs.Yteiaeaciaglmgaa
set_option linter.unusedVariables false
set_option linter.unusedSimpArgs false
namespace Go.Proofs.Yteiaeaciaglmgaa
theorem ltL_pre : ∀ (b : List Int) {x y : Int} {r s : List Int}, x < y → ltL (b ++ x :: r) (b ++ y :: s) = true
 | [], x, y, r, s, h => by
  simp only [List.nil_append, ltL]
  rw [if_neg (by omega)]
  exact decide_eq_true h
 | a :: b, x, y, r, s, h => by
  simp only [List.cons_append, ltL, if_true]
  exact ltL_pre b h
theorem begins_more {n x : Nat} {b : List Int} (hb : Begins n b) (hx : x < n) (hc : hasB b (x : Int) = false) : Begins n (b ++ [(x : Int)]) := by
 have hnb : (x : Int) ∉ b := fun hm => by rw [hasB_mem.2 hm] at hc; cases hc
 refine ⟨List.nodup_append.2 ⟨hb.1, by simp, fun y hy z hz e => ?_⟩, fun y hy => ?_⟩
 ·obtain rfl := List.mem_singleton.1 hz
  subst e
  exact hnb hy
 ·rcases List.mem_append.1 hy with hy | hy
  ·exact hb.2 y hy
  ·obtain rfl := List.mem_singleton.1 hy
   omega
theorem permsF_srt {n : Nat} : ∀ (f : Nat) (b : List Int), Begins n b → SrtL (permsF n f b)
 | 0, b, _ => by unfold SrtL; simp [permsF]
 | f + 1, b, hb => by
  unfold SrtL
  simp only [permsF]
  rw [List.pairwise_flatMap]
  refine ⟨fun x hx => ?_, List.pairwise_lt_range.imp_of_mem fun {x y} hx hy hlt p hp q hq => ?_⟩
  ·cases hc : hasB b (x : Int) with
   | true => simp
   | false =>
    rw [if_neg (by decide)]
    exact permsF_srt f _ (begins_more hb (List.mem_range.1 hx) hc)
  ·cases hc : hasB b (x : Int) with
   | true => rw [hc] at hp; simp at hp
   | false =>
    cases hd : hasB b (y : Int) with
    | true => rw [hd] at hq; simp at hq
    | false =>
     rw [hc] at hp
     rw [hd] at hq
     simp only [Bool.false_eq_true, if_false] at hp hq
     obtain ⟨r, e1, _⟩ := (mem_permsF f _ (begins_more hb (List.mem_range.1 hx) hc)).1 hp
     obtain ⟨t, e2, _⟩ := (mem_permsF f _ (begins_more hb (List.mem_range.1 hy) hd)).1 hq
     rw [e1, e2, List.append_assoc, List.append_assoc]
     exact ltL_pre b (by omega)
theorem permsL_srt (n : Nat) : SrtL (permsL n) := permsF_srt n [] ⟨List.nodup_nil, fun x h => by cases h⟩
end Go.Proofs.Yteiaeaciaglmgaa
set_option linter.unusedVariables false
set_option linter.unusedSimpArgs false
namespace Go.Proofs.Yteiaeaciaglmgaa
theorem asc_min : ∀ {E r : List Int}, E.Pairwise (· < ·) → r.Perm E → r = E ∨ ltL E r = true
 | [], r, _, h => .inl (List.perm_nil.1 h)
 | e :: E, [], _, h => by have := h.length_eq; simp at this
 | e :: E, x :: r, hp, h => by
  have hx : x ∈ e :: E := h.subset (by simp)
  rcases List.mem_cons.1 hx with rfl | hx
  ·rcases asc_min (List.pairwise_cons.1 hp).2 ((List.perm_cons x).1 h) with rfl | h2
   ·exact .inl rfl
   ·right; simp only [ltL, if_true]; exact h2
  ·have := (List.pairwise_cons.1 hp).1 x hx
   right
   simp only [ltL]
   rw [if_neg (by omega)]
   exact decide_eq_true this
theorem desc_max : ∀ {D r : List Int}, D.Pairwise (· > ·) → r.Perm D → ltL D r = false
 | [], r, _, h => by rw [List.perm_nil.1 h]; rfl
 | d :: D, [], _, h => rfl
 | d :: D, x :: r, hp, h => by
  have hx : x ∈ d :: D := h.subset (by simp)
  simp only [ltL]
  rcases List.mem_cons.1 hx with rfl | hx
  ·rw [if_pos rfl]
   exact desc_max (List.pairwise_cons.1 hp).2 ((List.perm_cons x).1 h)
  ·have := (List.pairwise_cons.1 hp).1 x hx
   rw [if_neg (by omega)]
   exact decide_eq_false (by omega)
section
variable {a c : Int} {D1 D2 : List Int} (hD : (D1 ++ c :: D2).Pairwise (· > ·)) (hc : a < c) (h2 : ∀ x ∈ D2, x < a)
include hD hc h2
theorem next_list : ∀ {A r : List Int}, r.Perm (A ++ a :: (D1 ++ c :: D2)) → ltL (A ++ a :: (D1 ++ c :: D2)) r = true → r = A ++ c :: (D1 ++ a :: D2).reverse ∨ ltL (A ++ c :: (D1 ++ a :: D2).reverse) r = true
 | [], [], h, _ => by have := h.length_eq; simp at this
 | [], y :: r, h, hl => by
  have hp := List.pairwise_append.1 hD
  have hp2 := List.pairwise_cons.1 hp.2.1
  simp only [List.nil_append, ltL] at hl ⊢
  by_cases hay : a = y
  ·subst hay
   rw [if_pos rfl, desc_max hD ((List.perm_cons a).1 h)] at hl
   cases hl
  ·rw [if_neg hay] at hl
   have hlt := of_decide_eq_true hl
   have hy : y ∈ a :: (D1 ++ c :: D2) := h.subset (by simp)
   have hyc : c ≤ y := by
    rcases List.mem_cons.1 hy with hy | hy
    ·omega
    ·rcases List.mem_append.1 hy with hy | hy
     ·have := hp.2.2 y hy c (by simp)
      omega
     ·rcases List.mem_cons.1 hy with hy | hy
      ·omega
      ·have := h2 y hy
       omega
   by_cases hcy : c = y
   ·subst hcy
    have h1 : (a :: (D1 ++ c :: D2)).Perm (c :: (D1 ++ a :: D2)) := by
     refine (List.Perm.cons a List.perm_middle).trans ?_
     refine (List.Perm.swap c a _).trans ?_
     exact List.Perm.cons c List.perm_middle.symm
    have hr : r.Perm (D1 ++ a :: D2).reverse := ((List.perm_cons c).1 (h.trans h1)).trans (List.reverse_perm _).symm
    have hE : (D1 ++ a :: D2).reverse.Pairwise (· < ·) := by
     rw [List.pairwise_reverse]
     refine List.pairwise_append.2 ⟨hp.1, List.pairwise_cons.2 ⟨fun x hx => h2 x hx, hp2.2⟩, fun x hx z hz => ?_⟩
     rcases List.mem_cons.1 hz with rfl | hz
     ·have := hp.2.2 x hx c (by simp); omega
     ·exact hp.2.2 x hx z (by simp [hz])
    rcases asc_min hE hr with e | e
    ·left; rw [e]
    ·right; rw [if_pos rfl]; exact e
   ·right
    rw [if_neg hcy]
    exact decide_eq_true (by omega)
 | x :: A, [], h, _ => by have := h.length_eq; simp at this
 | x :: A, y :: r, h, hl => by
  simp only [List.cons_append, ltL] at hl ⊢
  by_cases hxy : x = y
  ·subst hxy
   rw [if_pos rfl] at hl
   rcases next_list ((List.perm_cons x).1 h) hl with e | e
   ·left; rw [e]
   ·right; rw [if_pos rfl]; exact e
  ·right
   rw [if_neg hxy] at hl ⊢
   exact hl
end
theorem next_lt {a c : Int} {D1 D2 : List Int} (hc : a < c) (A : List Int) : ltL (A ++ a :: (D1 ++ c :: D2)) (A ++ c :: (D1 ++ a :: D2).reverse) = true := ltL_pre A hc
theorem next_perm {a c : Int} {D1 D2 : List Int} (A : List Int) : (A ++ c :: (D1 ++ a :: D2).reverse).Perm (A ++ a :: (D1 ++ c :: D2)) := by
 refine List.Perm.append_left A ?_
 refine (List.Perm.cons c (List.reverse_perm _)).trans ?_
 refine (List.Perm.cons c List.perm_middle).trans ?_
 refine (List.Perm.swap a c _).trans ?_
 exact List.Perm.cons a List.perm_middle.symm
/-- perms of the same numbers -/
theorem perms_perm {n : Nat} {p q : List Int} (hp : p ∈ permsL n) (hq : q ∈ permsL n) : p.Perm q := by
 have h1 := permB_parts (mem_permsL.1 hp)
 have h2 := permB_parts (mem_permsL.1 hq)
 refine (List.perm_ext_iff_of_nodup h1.2.2 h2.2.2).2 (fun x => ?_)
 have key : ∀ {l : List Int}, (∀ x ∈ l, 0 ≤ x ∧ x < (n : Int)) → l.length = n → l.Nodup → ∀ x, 0 ≤ x ∧ x < (n : Int) → x ∈ l := fun {l} a b c x hx => by
  have := free_len c a
  have hz : freeK l n = 0 := by omega
  have : ∀ m, freeK l m = 0 → ∀ i : Nat, i < m → hasB l (i : Int) = true := fun m => by
   induction m with
   | zero => intro _ i hi; omega
   | succ m ih =>
    intro h i hi
    simp only [freeK] at h
    cases hh : hasB l (m : Int) with
    | true =>
     rw [if_pos hh] at h
     by_cases e : i = m
     ·subst e; exact hh
     ·exact ih h i (by omega)
    | false =>
     rw [if_neg (by simp [hh])] at h
     omega
  have h3 := this n hz x.toNat (by omega)
  rw [Int.toNat_of_nonneg hx.1] at h3
  exact hasB_mem.1 h3
 exact ⟨fun h => key h2.1 h2.2.1 h2.2.2 x (h1.1 x h), fun h => key h1.1 h1.2.1 h1.2.2 x (h2.1 x h)⟩
theorem perm_perms {n : Nat} {p q : List Int} (hp : p ∈ permsL n) (h : q.Perm p) : q ∈ permsL n := by
 have h1 := permB_parts (mem_permsL.1 hp)
 refine mem_permsL.2 ?_
 unfold permB inB diffB
 simp only [Bool.and_eq_true, decide_eq_true_eq, List.all_eq_true]
 exact ⟨fun x hx => h1.1 x (h.subset hx), by rw [h.length_eq]; omega, h.nodup_iff.2 h1.2.2⟩
/-- one more than the last place below m whose number is less than the next one's; 0 if there is none -/
def upI (p : List Int) : Nat → Nat
 | 0 => 0
 | m + 1 => if nth p (m + 1) < nth p m then upI p m else m + 1
/-- the last place below m whose number is not less than x -/
def gtI (p : List Int) (x : Int) : Nat → Nat
 | 0 => 0
 | m + 1 => if nth p m < x then gtI p x m else m
def swapI (p : List Int) (i k : Nat) : List Int := (p.set i (nth p k)).set k (nth p i)
def nextL (p : List Int) : List Int := ((swapI p (upI p (p.length - 1) - 1) (gtI p (nth p (upI p (p.length - 1) - 1)) p.length)).take (upI p (p.length - 1))) ++ ((swapI p (upI p (p.length - 1) - 1) (gtI p (nth p (upI p (p.length - 1) - 1)) p.length)).drop (upI p (p.length - 1))).reverse
theorem upI_spec {p : List Int} : ∀ {m}, upI p m ≤ m ∧ (∀ j, upI p m ≤ j → j < m → nth p (j + 1) < nth p j) ∧ (0 < upI p m → ¬ nth p (upI p m) < nth p (upI p m - 1))
 | 0 => ⟨Nat.le_refl _, fun j _ h => by omega, fun h => by simp [upI] at h⟩
 | m + 1 => by
  obtain ⟨h1, h2, h3⟩ := upI_spec (p := p) (m := m)
  simp only [upI]
  by_cases h : nth p (m + 1) < nth p m
  ·rw [if_pos h]
   refine ⟨by omega, fun j a b => ?_, h3⟩
   by_cases e : j = m
   ·subst e; exact h
   ·exact h2 j a (by omega)
  ·rw [if_neg h]
   exact ⟨Nat.le_refl _, fun j a b => by omega, fun _ => h⟩
theorem gtI_spec {p : List Int} {x : Int} : ∀ {m}, (∃ j, j < m ∧ ¬ nth p j < x) → gtI p x m < m ∧ ¬ nth p (gtI p x m) < x ∧ ∀ j, gtI p x m < j → j < m → nth p j < x
 | 0, ⟨j, h, _⟩ => by omega
 | m + 1, ⟨j, h1, h2⟩ => by
  simp only [gtI]
  by_cases h : nth p m < x
  ·rw [if_pos h]
   have hj : j ≠ m := fun e => by subst e; exact h2 h
   obtain ⟨q1, q2, q3⟩ := gtI_spec (p := p) (x := x) (m := m) ⟨j, by omega, h2⟩
   refine ⟨by omega, q2, fun i a b => ?_⟩
   by_cases e : i = m
   ·subst e; exact h
   ·exact q3 i a (by omega)
  ·rw [if_neg h]
   exact ⟨by omega, h, fun i a b => by omega⟩
theorem desc_drop {p : List Int} : ∀ {u : Nat}, (∀ j, u ≤ j → j + 1 < p.length → nth p (j + 1) < nth p j) → (p.drop u).Pairwise (· > ·) := by
 intro u h
 have key : ∀ d i, u ≤ i → i + d + 1 < p.length → nth p (i + d + 1) < nth p i := fun d => by
  induction d with
  | zero => intro i a b; exact h i a b
  | succ d ih =>
   intro i a b
   have h1 := ih i a (by omega)
   have h2 := h (i + d + 1) (by omega) (by omega)
   rw [show i + (d + 1) + 1 = i + d + 1 + 1 by omega]
   omega
 rw [List.pairwise_iff_getElem]
 intro i j hi hj hij
 rw [List.length_drop] at hi hj
 rw [List.getElem_drop, List.getElem_drop, ← nth_lt (by omega), ← nth_lt (by omega)]
 have := key (j - i - 1) (u + i) (by omega) (by omega)
 rw [show u + i + (j - i - 1) + 1 = u + j by omega] at this
 exact this
/-- where a permutation is cut -/
theorem next_cut {p : List Int} (hn : p.Nodup) {i : Nat} (hu : upI p (p.length - 1) = i + 1) : ∃ A D1 D2 : List Int, ∃ a c : Int, p = A ++ a :: (D1 ++ c :: D2) ∧ A.length = i ∧ (D1 ++ c :: D2).Pairwise (· > ·) ∧ a < c ∧ (∀ x ∈ D2, x < a) ∧
  nth p i = a ∧ gtI p a p.length = i + 1 + D1.length ∧ nth p (i + 1 + D1.length) = c ∧ nextL p = A ++ c :: (D1 ++ a :: D2).reverse := by
 obtain ⟨h1, h2, h3⟩ := upI_spec (p := p) (m := p.length - 1)
 rw [hu] at h1 h2 h3
 have hil : i + 1 < p.length := by omega
 have h3' : nth p i < nth p (i + 1) := by
  have h4 := h3 (by omega)
  simp only [Nat.add_sub_cancel] at h4
  have : nth p i ≠ nth p (i + 1) := fun e => by have := nth_injC hn (by omega) hil e; omega
  omega
 obtain ⟨g1, g2, g3⟩ := gtI_spec (p := p) (x := nth p i) (m := p.length) ⟨i + 1, hil, by omega⟩
 obtain ⟨k, hk⟩ : ∃ k, gtI p (nth p i) p.length = k := ⟨_, rfl⟩
 rw [hk] at g1 g2 g3
 have hki : i + 1 ≤ k := by
  rcases Nat.lt_or_ge k (i + 1) with h | h
  ·have := g3 (i + 1) h hil
   omega
  ·exact h
 have hck : nth p i < nth p k := by
  have : nth p i ≠ nth p k := fun e => by have := nth_injC hn (by omega) g1 e; omega
  omega
 have hp1 : p = p.take i ++ nth p i :: p.drop (i + 1) := by
  rw [nth_lt (by omega), List.getElem_cons_drop, List.take_append_drop]
 have hp2 : p.drop (i + 1) = (p.drop (i + 1)).take (k - (i + 1)) ++ nth p k :: p.drop (k + 1) := by
  have e1 : nth p k = (p.drop (i + 1))[k - (i + 1)]'(by rw [List.length_drop]; omega) := by
   rw [List.getElem_drop, nth_lt g1]
   congr 1
   omega
  have e2 : p.drop (k + 1) = (p.drop (i + 1)).drop (k - (i + 1) + 1) := by
   rw [List.drop_drop]
   congr 1
   omega
  rw [e1, e2, List.getElem_cons_drop, List.take_append_drop]
 have hD1 : ((p.drop (i + 1)).take (k - (i + 1))).length = k - (i + 1) := by rw [List.length_take, List.length_drop]; omega
 refine ⟨p.take i, (p.drop (i + 1)).take (k - (i + 1)), p.drop (k + 1), nth p i, nth p k, ?_, by rw [List.length_take]; omega, ?_, hck, ?_, rfl, by rw [hk, hD1]; omega, by rw [hD1]; congr 1; omega, ?_⟩
 ·rw [← hp2]; exact hp1
 ·rw [← hp2]
  exact desc_drop (fun j a b => h2 j a (by omega))
 ·intro x hx
  obtain ⟨j, hj, e⟩ := List.mem_iff_getElem.1 hx
  rw [List.length_drop] at hj
  rw [List.getElem_drop, ← nth_lt (by omega)] at e
  rw [← e]
  exact g3 (k + 1 + j) (by omega) (by omega)
 ·obtain ⟨A, hA⟩ : ∃ A, p.take i = A := ⟨_, rfl⟩
  obtain ⟨D1, hD⟩ : ∃ D, (p.drop (i + 1)).take (k - (i + 1)) = D := ⟨_, rfl⟩
  obtain ⟨D2, hE⟩ : ∃ D, p.drop (k + 1) = D := ⟨_, rfl⟩
  obtain ⟨a, ha⟩ : ∃ a, nth p i = a := ⟨_, rfl⟩
  obtain ⟨c, hc⟩ : ∃ c, nth p k = c := ⟨_, rfl⟩
  have hAl : A.length = i := by rw [← hA, List.length_take]; omega
  have hDl : D1.length = k - (i + 1) := by rw [← hD]; exact hD1
  have hpp : p = A ++ a :: (D1 ++ c :: D2) := by rw [← hA, ← ha, ← hD, ← hc, ← hE, ← hp2]; exact hp1
  unfold nextL
  rw [hu, Nat.add_sub_cancel, hk]
  have hsw : swapI p i k = A ++ c :: (D1 ++ a :: D2) := by
   unfold swapI
   rw [ha, hc, hpp, List.set_append_right _ _ (by omega), show i - A.length = 0 by omega, List.set_cons_zero]
   rw [List.set_append_right _ _ (by omega), show k - A.length = (k - (i + 1)) + 1 by omega, List.set_cons_succ]
   rw [List.set_append_right _ _ (by omega), show k - (i + 1) - D1.length = 0 by omega, List.set_cons_zero]
  rw [hsw, hA, hD, hE, ha, hc]
  have e1 : (A ++ c :: (D1 ++ a :: D2)).take (i + 1) = A ++ [c] := by
   rw [show A ++ c :: (D1 ++ a :: D2) = (A ++ [c]) ++ (D1 ++ a :: D2) by simp, List.take_left' (by simp; omega)]
  have e2 : (A ++ c :: (D1 ++ a :: D2)).drop (i + 1) = D1 ++ a :: D2 := by
   rw [show A ++ c :: (D1 ++ a :: D2) = (A ++ [c]) ++ (D1 ++ a :: D2) by simp, List.drop_left' (by simp; omega)]
  rw [e1, e2]
  simp
theorem rowE_mem {L : List (List Int)} {j : Nat} (h : j < L.length) : rowAt L j ∈ L := by
 unfold rowAt
 rw [List.getD_eq_getElem?_getD, List.getElem?_eq_getElem h]
 exact List.getElem_mem h
theorem memE_row {L : List (List Int)} {p : List Int} (h : p ∈ L) : ∃ j, j < L.length ∧ rowAt L j = p := by
 obtain ⟨j, hj, e⟩ := List.mem_iff_getElem.1 h
 refine ⟨j, hj, ?_⟩
 unfold rowAt
 rw [List.getD_eq_getElem?_getD, List.getElem?_eq_getElem hj]
 exact e
theorem srtE_at {rows : List (List Int)} (h : SrtL rows) {i j : Nat} (hij : i < j) (hj : j < rows.length) : ltL (rowAt rows i) (rowAt rows j) = true := by
 unfold SrtL at h
 have := List.pairwise_iff_getElem.1 h i j (by omega) hj hij
 unfold rowAt
 rw [List.getD_eq_getElem?_getD, List.getD_eq_getElem?_getD, List.getElem?_eq_getElem hj, List.getElem?_eq_getElem (show i < rows.length by omega)]
 exact this
theorem idx_of_lt {L : List (List Int)} (hs : SrtL L) {i j : Nat} (hi : i < L.length) (hj : j < L.length) (h : ltL (rowAt L i) (rowAt L j) = true) : i < j := by
 rcases Nat.lt_trichotomy i j with h1 | h1 | h1
 ·exact h1
 ·subst h1; rw [ltL_irrefl] at h; cases h
 ·have := srtE_at hs h1 hi
  rw [ltL_asymm this] at h
  cases h
/-- the permutations, one after the other -/
theorem perms_next {n j : Nat} (hj : j < (permsL n).length) : (0 < upI (rowAt (permsL n) j) (n - 1) ↔ j + 1 < (permsL n).length) ∧ (j + 1 < (permsL n).length → rowAt (permsL n) (j + 1) = nextL (rowAt (permsL n) j)) := by
 have hs := permsL_srt n
 obtain ⟨p, hp⟩ : ∃ p, rowAt (permsL n) j = p := ⟨_, rfl⟩
 have hpm : p ∈ permsL n := by rw [← hp]; exact rowE_mem hj
 have hpb := permB_parts (mem_permsL.1 hpm)
 have hpl := hpb.2.1
 rw [hp]
 by_cases hu : 0 < upI p (n - 1)
 ·obtain ⟨i, hi⟩ : ∃ i, upI p (n - 1) = i + 1 := ⟨upI p (n - 1) - 1, by omega⟩
  obtain ⟨A, D1, D2, a, c, e, eA, hD, hac, hD2, _, _, _, hnx⟩ := next_cut hpb.2.2 (i := i) (by rw [hpl]; exact hi)
  have hq : nextL p ∈ permsL n := by rw [hnx]; refine perm_perms hpm ?_; rw [e]; exact next_perm A
  have hlt : ltL p (nextL p) = true := by
   rw [hnx]
   conv => lhs; rw [e]
   exact next_lt hac A
  obtain ⟨t, ht, et⟩ := memE_row hq
  have hjt : j < t := idx_of_lt hs hj ht (by rw [hp, et]; exact hlt)
  refine ⟨⟨fun _ => by omega, fun _ => hu⟩, fun hj1 => ?_⟩
  have h1 := srtE_at hs (show j < j + 1 by omega) hj1
  rw [hp] at h1
  have h2 := next_list hD hac hD2 (A := A) (r := rowAt (permsL n) (j + 1)) (by rw [← e]; exact perms_perm (rowE_mem hj1) hpm) (by rw [← e]; exact h1)
  rw [← hnx] at h2
  rcases h2 with h2 | h2
  ·exact h2
  ·have := idx_of_lt hs ht hj1 (by rw [et]; exact h2)
   omega
 ·refine ⟨⟨fun h => absurd h hu, fun hj1 => ?_⟩, fun hj1 => ?_⟩ <;>
  ·exfalso
   have h1 := srtE_at hs (show j < j + 1 by omega) hj1
   rw [hp] at h1
   have hsp := (upI_spec (p := p) (m := n - 1)).2.1
   have hdesc : (p.drop 0).Pairwise (· > ·) := desc_drop (fun i a b => hsp i (by omega) (by omega))
   rw [List.drop_zero] at hdesc
   rw [desc_max hdesc (perms_perm (rowE_mem hj1) hpm)] at h1
   cases h1
theorem perms_first (n : Nat) : rowAt (permsL n) 0 = (List.range n).map Int.ofNat := by
 have hs := permsL_srt n
 have hpos : 0 < (permsL n).length := by rw [permsL_len]; exact facN_pos n
 have hasc : ((List.range n).map Int.ofNat).Pairwise (· < ·) := by
  rw [List.pairwise_map]
  exact List.pairwise_lt_range.imp (fun h => by simp only [Int.ofNat_eq_natCast]; omega)
 have hid : (List.range n).map Int.ofNat ∈ permsL n := by
  refine mem_permsL.2 ?_
  unfold permB inB diffB
  simp only [Bool.and_eq_true, decide_eq_true_eq, List.all_eq_true]
  refine ⟨fun x hx => ?_, by simp, hasc.imp (fun h => by omega)⟩
  obtain ⟨i, hi, rfl⟩ := List.mem_map.1 hx
  have := List.mem_range.1 hi
  simp only [Int.ofNat_eq_natCast]
  omega
 rcases asc_min hasc (perms_perm (rowE_mem hpos) hid) with h | h
 ·exact h
 ·obtain ⟨t, ht, et⟩ := memE_row hid
  have := idx_of_lt hs ht hpos (by rw [et]; exact h)
  omega
end Go.Proofs.Yteiaeaciaglmgaa
set_option linter.unusedVariables false
set_option linter.unusedSimpArgs false
namespace Go.Proofs.Yteiaeaciaglmgaa
open Go.RowKit
structure RecK {D : Type} (k : Nat) (R : Nat → World → List Value → D → Prop) : Prop where
 len : ∀ {B w c d}, R B w c d → c.length = k
 one : ∀ {B w c d}, R B w c d → ∀ u ∈ c, u.oneCell' = true
 below : ∀ {B B' w w' c d}, R B w c d → Below B' w w' → B ≤ B' → R B w' c d
 mono : ∀ {B B' w c d}, R B w c d → B ≤ B' → R B' w c d
section
variable {D : Type} {k : Nat} {R : Nat → World → List Value → D → Prop}
/-- v reads as the records xs: cells in block b < B -/
def IsRecs (k : Nat) (R : Nat → World → List Value → D → Prop) (L : Nat) (d0 : D) (B : Nat) (w : World) (v : Value) (xs : List D) : Prop :=
 ∃ b off cap, SliceV v xs.length b off cap ∧ xs.length ≤ L ∧ ∀ j, j < xs.length → ∃ c, (∀ q u, c[q]? = some u → CellB B w b (off + j * k + q) u) ∧ R B w c (xs.getD j d0)
theorem IsRecs.below (hR : RecK k R) {L B B' : Nat} {d0 : D} {w w' : World} {v : Value} {xs : List D} (h : IsRecs k R L d0 B w v xs) (hb : Below B' w w') (hB : B ≤ B') : IsRecs k R L d0 B w' v xs := by
 obtain ⟨b, off, cap, h1, h2, h3⟩ := h
 refine ⟨b, off, cap, h1, h2, fun j hj => ?_⟩
 obtain ⟨c, c1, c2⟩ := h3 j hj
 exact ⟨c, fun q u hq => (c1 q u hq).below hb hB, hR.below c2 hb hB⟩
theorem flat_lenK {vals : List (List Value)} (h : ∀ c ∈ vals, c.length = k) : vals.flatten.length = vals.length * k := by
 induction vals with
 | nil => simp
 | cons c r ih =>
  have h1 := h c (by simp)
  have h2 := ih (fun x hx => h x (by simp [hx]))
  simp only [List.flatten_cons, List.length_append, List.length_cons, h1, h2, Nat.add_mul]
  omega
theorem flat_getK : ∀ {vals : List (List Value)}, (∀ c ∈ vals, c.length = k) → ∀ j q, j < vals.length → q < k → vals.flatten[j * k + q]? = (vals.getD j [])[q]?
 | c :: r, h, 0, q, _, hq => by
  have h1 := h c (by simp)
  simp only [List.flatten_cons, Nat.zero_mul, Nat.zero_add]
  rw [List.getElem?_append_left (by omega)]
  rfl
 | c :: r, h, j + 1, q, hj, hq => by
  have h1 := h c (by simp)
  have ih := flat_getK (vals := r) (fun x hx => h x (by simp [hx])) j q (by simpa using hj) hq
  rw [List.flatten_cons, List.getElem?_append_right (by rw [h1, Nat.add_mul]; omega), h1]
  rw [show (j + 1) * k + q - k = j * k + q by rw [Nat.add_mul]; omega, ih]
  rfl
/-- records of the call's own -/
def OwnRecs (ty : TypeId) (k : Nat) (R : Nat → World → List Value → D → Prop) (L : Nat) (d0 : D) (C : Nat) (w : World) (v : Value) (xs : List D) : Prop :=
 ∃ vals : List (List Value), w.ownsRow C ty k v xs.length vals.flatten ∧ vals.length = xs.length ∧ xs.length ≤ L ∧ ∀ j, j < xs.length → R C w (vals.getD j []) (xs.getD j d0)
variable {ty : TypeId} {L C : Nat} {d0 : D} {w w' : World} {v : Value} {xs : List D}
theorem OwnRecs.made {n : Nat} (hn : n = w.heap.size) (hC : C ≤ w.heap.size) : OwnRecs ty k R L d0 C (w.alloc (.cells #[] ty)) (.slice (some ⟨n, 0, none⟩) 0 0) [] := by
 subst hn
 exact ⟨[], World.ownsRow_made w #[] 0 hC (by simp) (by simp), rfl, by simp, fun j hj => by simp at hj⟩
theorem OwnRecs.kept (hR : RecK k R) {row : Option Nat} (h : OwnRecs ty k R L d0 C w v xs) (hg : w.grownBy w' row) (hr : ∀ q, row = some q → C ≤ q) (hC : C ≤ w.heap.size) (hne : v.ownBlock = none ∨ v.ownBlock ≠ row) : OwnRecs ty k R L d0 C w' v xs := by
 obtain ⟨vals, h1, h2, h3, h4⟩ := h
 have hb : Below C w w' := (Below.refl C w).grown hg hC hr
 exact ⟨vals, h1.kept hg hne, h2, h3, fun j hj => hR.below (h4 j hj) hb (Nat.le_refl _)⟩
theorem OwnRecs.below (hR : RecK k R) (h : OwnRecs ty k R L d0 C w v xs) (hb : Below w.heap.size w w') (hC : C ≤ w.heap.size) : OwnRecs ty k R L d0 C w' v xs :=
 h.kept hR (row := none) ⟨hb.os, hb.tape, hb.output, hb.size, fun q hq _ => hb.block q hq⟩ (fun q hq => by cases hq) hC (by cases hv : v.ownBlock <;> simp)
theorem OwnRecs.form (h : OwnRecs ty k R L d0 C w v xs) : ∃ a cap, v = .slice a xs.length cap := by
 obtain ⟨vals, h1, _⟩ := h
 rcases h1.2 with ⟨rfl, hn⟩ | ⟨g, cap, cur, rfl, rest⟩
 ·exact ⟨none, 0, by rw [hn]⟩
 ·exact ⟨_, cap, rfl⟩
theorem OwnRecs.lt (h : OwnRecs ty k R L d0 C w v xs) : ∀ q, v.ownBlock = some q → C ≤ q ∧ q < w.heap.size := by
 obtain ⟨vals, h1, _⟩ := h
 exact h1.lt
theorem OwnRecs.vals_len (hR : RecK k R) {vals : List (List Value)} (h2 : vals.length = xs.length) (h4 : ∀ j, j < xs.length → R C w (vals.getD j []) (xs.getD j d0)) : ∀ c ∈ vals, c.length = k := by
 intro c hc
 obtain ⟨j, hj, rfl⟩ := List.getElem_of_mem hc
 have := hR.len (h4 j (by omega))
 rw [List.getD_eq_getElem?_getD, List.getElem?_eq_getElem hj] at this
 exact this
theorem OwnRecs.isRecs (hR : RecK k R) (h : OwnRecs ty k R L d0 C w v xs) (hC : C ≤ w.heap.size) : IsRecs k R L d0 w.heap.size w v xs := by
 obtain ⟨vals, ⟨hl, h1⟩, h2, h3, h4⟩ := h
 have hvl := OwnRecs.vals_len hR h2 h4
 rcases h1 with ⟨rfl, hn⟩ | ⟨g, cap, cur, rfl, hb, hg, hnc, hcm, hcs, htk⟩
 ·exact ⟨0, 0, 0, ⟨none, by rw [hn], by omega, by omega, Or.inr hn⟩, h3, fun j hj => by omega⟩
 ·refine ⟨g, 0, cap, ⟨some ⟨g, 0, none⟩, rfl, hnc, by unfold maxLen at hcm; omega, Or.inl rfl⟩, h3, fun j hj => ⟨vals.getD j [], fun q u hq => ⟨(Array.getElem?_eq_some_iff.1 hg).1, ?_⟩, hR.mono (h4 j hj) hC⟩⟩
  have hq' : q < k := by
   have h5 := hR.len (h4 j hj)
   have := (List.getElem?_eq_some_iff.1 hq).1
   omega
  have hf := flat_getK hvl j q (by omega) hq'
  rw [hq] at hf
  have hlt : j * k + q < xs.length * k := by
   have : (j + 1) * k ≤ xs.length * k := Nat.mul_le_mul_right _ (by omega)
   rw [Nat.add_mul] at this
   omega
  simp only [World.cell?, hg, Nat.zero_add]
  have : (cur.toList.take (xs.length * k))[j * k + q]? = vals.flatten[j * k + q]? := by rw [htk]
  rw [List.getElem?_take, if_pos hlt, hf] at this
  simpa using this
/-- a source of records that lie below C -/
def SrcRecs (k : Nat) (R : Nat → World → List Value → D → Prop) (d0 : D) (C : Nat) (w : World) (vx : Value) (ys : List D) : Prop :=
 ∃ vals : List (List Value), Src w k vx ys.length vals.flatten ∧ vals.length = ys.length ∧ ∀ j, j < ys.length → R C w (vals.getD j []) (ys.getD j d0)
theorem addP (b o j : Nat) : (⟨b, o, none⟩ : Addr).add j = ⟨b, o + j, none⟩ := by unfold Addr.add; split <;> simp_all
theorem srcRecs_one (hR : RecK k R) {g c : Nat} {cs : List Value} {d : D} (hc : ∀ q u, cs[q]? = some u → w.cell? ⟨g, q, none⟩ = some u) (hd : R C w cs d) : SrcRecs k R d0 C w (.slice (some ⟨g, 0, none⟩) 1 c) [d] := by
 refine ⟨[cs], ⟨_, c, rfl, by simp [hR.len hd], fun q u hu => ⟨_, rfl, ?_⟩, fun u hu => hR.one hd u (by simpa using hu)⟩, rfl, fun j hj => ?_⟩
 ·rw [addP, Nat.zero_add]
  exact hc q u (by simpa using hu)
 ·obtain rfl : j = 0 := by simpa using hj
  exact hd
theorem flat_idxK (hk : 0 < k) {vals : List (List Value)} (h : ∀ c ∈ vals, c.length = k) {q : Nat} {u : Value} (hu : vals.flatten[q]? = some u) : q / k < vals.length ∧ q % k < k ∧ (vals.getD (q / k) [])[q % k]? = some u := by
 have hq := (List.getElem?_eq_some_iff.1 hu).1
 rw [flat_lenK h] at hq
 have h1 : q / k < vals.length := Nat.div_lt_of_lt_mul (by rw [Nat.mul_comm]; exact hq)
 have h2 : q % k < k := Nat.mod_lt _ hk
 refine ⟨h1, h2, ?_⟩
 rw [← flat_getK h _ _ h1 h2]
 rw [show q / k * k + q % k = q by rw [Nat.mul_comm]; exact Nat.div_add_mod q k]
 exact hu
theorem IsRecs.src (hR : RecK k R) (hk : 0 < k) {B : Nat} (h : IsRecs k R L d0 B w v xs) (hB : B ≤ C) : SrcRecs k R d0 C w v xs := by
 obtain ⟨b, off, cap, ⟨ad, rfl, hcap, hmax, ha⟩, hl, hc⟩ := h
 obtain ⟨f, hf⟩ := Go.Deep.choose_lt (α := List Value) (n := xs.length) (p := fun j c => (∀ q u, c[q]? = some u → CellB B w b (off + j * k + q) u) ∧ R B w c (xs.getD j d0)) (fun j hj => hc j hj)
 have hvl : ((List.range xs.length).map f).length = xs.length := by simp
 have hat : ∀ j, j < xs.length → ((List.range xs.length).map f).getD j [] = f j := fun j hj => by
  rw [List.getD_eq_getElem?_getD]
  simp [hj]
 have hlen : ∀ c ∈ (List.range xs.length).map f, c.length = k := by
  intro c hc
  obtain ⟨j, hj, rfl⟩ := List.mem_map.1 hc
  exact hR.len (hf j (List.mem_range.1 hj)).2
 refine ⟨(List.range xs.length).map f, ⟨ad, cap, rfl, by rw [flat_lenK hlen, hvl], fun q u hu => ?_, fun u hu => ?_⟩, hvl, fun j hj => by rw [hat j hj]; exact hR.mono (hf j hj).2 hB⟩
 ·obtain ⟨h1, h2, h3⟩ := flat_idxK hk hlen hu
  rw [hvl] at h1
  rw [hat _ h1] at h3
  obtain rfl : ad = some ⟨b, off, none⟩ := by
   rcases ha with ha | ha
   ·exact ha
   ·rw [ha] at h1; exact absurd h1 (Nat.not_lt_zero _)
  refine ⟨_, rfl, ?_⟩
  rw [addP]
  have := ((hf _ h1).1 _ _ h3).2
  rw [show off + q / k * k + q % k = off + q by rw [Nat.add_assoc, Nat.mul_comm, Nat.div_add_mod q k]] at this
  exact this
 ·obtain ⟨q, hq⟩ := List.getElem?_of_mem hu
  obtain ⟨h1, h2, h3⟩ := flat_idxK hk hlen hq
  rw [hvl] at h1
  rw [hat _ h1] at h3
  exact hR.one (hf _ h1).2 u (List.mem_of_getElem? h3)
theorem run_append_recs (hR : RecK k R) (hk : 0 < k) {bytes : Nat} {zero : Value} {t : TypeId} (hinfo : (Try.prog.info? ty).map (fun i => (i.zero, i.size, i.bytes)) = some (some zero, k, bytes)) (ht : Try.prog.underlying t = some (.slice ty)) (hzs : zero.cells.size = k) (hLb : L * bytes ≤ 140737488355328) (hLm : L ≤ maxLen)
  {vx : Value} {ys : List D} {oty : TypeId} (hown : OwnRecs ty k R L d0 C w v xs) (hs : SrcRecs k R d0 C w vx ys) (hlen : xs.length + ys.length ≤ L) (hC : C ≤ w.heap.size) :
  ∃ v' w', (Builtin.append_ #[t, t] oty #[v, vx]).run Try.prog w = .ok v' w' ∧ OwnRecs ty k R L d0 C w' v' (xs ++ ys) ∧ w.grownBy w' v.ownBlock ∧ (v'.ownBlock = v.ownBlock ∨ v'.ownBlock = some w.heap.size) := by
 obtain ⟨i0, hi, hz0, hz1, hz2⟩ := info_parts hinfo
 obtain ⟨vals, o1, o2, o3, o4⟩ := hown
 obtain ⟨news, s1, s2, s3⟩ := hs
 obtain ⟨v', w', h1, h2, h3, h4⟩ := run_append_gen (P := Try.prog) w C t oty ty i0 _ k bytes ht hi hz0 hz1 hz2 hzs hk v xs.length _ o1 vx ys.length _ s1 (by omega) (Nat.le_trans (Nat.mul_le_mul_right _ hlen) hLb) hC
 have hb : Below C w w' := (Below.refl C w).grown h3 hC (fun q hq => (o1.lt q hq).1)
 refine ⟨v', w', h1, ⟨vals ++ news, by rw [List.flatten_append]; simpa using h2, by simp [o2, s2], by simpa using hlen, fun j hj => ?_⟩, h3, h4⟩
 by_cases e : j < xs.length
 ·have e1 : (vals ++ news).getD j [] = vals.getD j [] := by rw [List.getD_eq_getElem?_getD, List.getD_eq_getElem?_getD, List.getElem?_append_left (by omega)]
  have e2 : (xs ++ ys).getD j d0 = xs.getD j d0 := by rw [List.getD_eq_getElem?_getD, List.getD_eq_getElem?_getD, List.getElem?_append_left e]
  rw [e1, e2]
  exact hR.below (o4 j e) hb (Nat.le_refl _)
 ·have e1 : (vals ++ news).getD j [] = news.getD (j - xs.length) [] := by rw [List.getD_eq_getElem?_getD, List.getD_eq_getElem?_getD, List.getElem?_append_right (by omega), o2]
  have e2 : (xs ++ ys).getD j d0 = ys.getD (j - xs.length) d0 := by rw [List.getD_eq_getElem?_getD, List.getD_eq_getElem?_getD, List.getElem?_append_right (by omega)]
  rw [e1, e2]
  exact hR.below (s3 (j - xs.length) (by simp at hj; omega)) hb (Nat.le_refl _)
theorem append_recsA (hR : RecK k R) (hk : 0 < k) {bytes : Nat} {zero : Value} {t : TypeId} (hinfo : (Try.prog.info? ty).map (fun i => (i.zero, i.size, i.bytes)) = some (some zero, k, bytes)) (ht : Try.prog.underlying t = some (.slice ty)) (hzs : zero.cells.size = k) (hLb : L * bytes ≤ 140737488355328) (hLm : L ≤ maxLen)
  {ops : Array Oper} {rest : List Oper} {o : Oper} {a : Act} {Q : Exit → Act → World → Prop} (hgd : o.guard = none) (s x : Operand)
  (ho : o.op = .call { callee := .builtin .append, args := #[s, x], argTypes := #[t, t] })
  {vx : Value} {ys : List D} (hs : a.eval s = v) (hown : OwnRecs ty k R L d0 C w v xs) (hx : a.eval x = vx) (hsrc : SrcRecs k R d0 C w vx ys) (hlen : xs.length + ys.length ≤ L) (hC : C ≤ w.heap.size)
  (h : ∀ v' w', OwnRecs ty k R L d0 C w' v' (xs ++ ys) → w.grownBy w' v.ownBlock → (v'.ownBlock = v.ownBlock ∨ v'.ownBlock = some w.heap.size) → wpList Try.prog ops Q rest (a.put o.dst v') w') : wpList Try.prog ops Q (o :: rest) a w := by
 refine wpList_plain hgd fun K hK => ?_
 obtain ⟨v', w', h1, h2, h3, h4⟩ := run_append_recs hR hk hinfo ht hzs hLb hLm (oty := o.type) hown hsrc hlen hC
 exact wp_of_append w ho hs hx h1 (hK _ _ (h v' w' h2 h3 h4))
end
end Go.Proofs.Yteiaeaciaglmgaa
set_option linter.unusedVariables false
set_option linter.unusedSimpArgs false
namespace Go.Proofs.Yteiaeaciaglmgaa
open Go.RowKit
/-- v reads as the numbers xs, its cells lie in a block of S -/
def IsIntsS (S : Nat → Prop) (w : World) (v : Value) (xs : List Int) : Prop :=
 ∃ b off cap, SliceV v xs.length b off cap ∧ xs.length ≤ 17592186043904 ∧ (∀ x ∈ xs, I64 x) ∧
  ∀ j, j < xs.length → S b ∧ w.cell? ⟨b, off + j, none⟩ = some (.int .i64 (nth xs j))
theorem OwnInts.intsS {B : Nat} {w : World} {v : Value} {xs : List Int} (h : OwnInts B w v xs) : IsIntsS (fun q => v.ownBlock = some q) w v xs := by
 obtain ⟨b, off, cap, h1, h2, h3, h4⟩ := h.isInts
 refine ⟨b, off, cap, h1, h2, h3, fun j hj => ⟨?_, (h4 j hj).2⟩⟩
 obtain ⟨⟨_, k1⟩, _, _⟩ := h
 obtain ⟨a, e, _, _, ha⟩ := h1
 rcases k1 with ⟨rfl, hn⟩ | ⟨g, cap', cur, rfl, rest⟩
 ·omega
 ·cases e
  rcases ha with ha | ha
  ·cases ha; rfl
  ·omega
structure RecS {D : Type} (k : Nat) (R : (Nat → Prop) → World → List Value → D → Prop) : Prop where
 len : ∀ {S w c d}, R S w c d → c.length = k
 one : ∀ {S w c d}, R S w c d → ∀ u ∈ c, u.oneCell' = true
 keep : ∀ {S w w' c d}, R S w c d → (∀ q, S q → w'.heap[q]? = w.heap[q]?) → R S w' c d
section
variable {D : Type} {k : Nat} {R : (Nat → Prop) → World → List Value → D → Prop}
/-- records of the call's own; what they lead to lies in blocks from C on, apart from the records' own -/
def OwnDeep (ty : TypeId) (k : Nat) (R : (Nat → Prop) → World → List Value → D → Prop) (L : Nat) (d0 : D) (C : Nat) (w : World) (v : Value) (xs : List D) : Prop :=
 ∃ vals : List (List Value), w.ownsRow C ty k v xs.length vals.flatten ∧ vals.length = xs.length ∧ xs.length ≤ L ∧
  ∀ j, j < xs.length → ∃ S : Nat → Prop, (∀ q, S q → C ≤ q ∧ q < w.heap.size ∧ v.ownBlock ≠ some q) ∧ R S w (vals.getD j []) (xs.getD j d0)
variable {ty : TypeId} {L C : Nat} {d0 : D} {w w' : World} {v : Value} {xs : List D}
theorem OwnDeep.nil : OwnDeep ty k R L d0 C w (.slice none 0 0) [] := ⟨[], World.ownsRow_nil _ _ _ _, rfl, by simp, fun j hj => by simp at hj⟩
theorem OwnDeep.lt (h : OwnDeep ty k R L d0 C w v xs) : ∀ q, v.ownBlock = some q → C ≤ q ∧ q < w.heap.size := by
 obtain ⟨vals, h1, _⟩ := h
 exact h1.lt
theorem OwnDeep.kept (hR : RecS k R) {row : Option Nat} (h : OwnDeep ty k R L d0 C w v xs) (hg : w.grownBy w' row) (hr : ∀ q, row = some q → q < C ∨ w.heap.size ≤ q) : OwnDeep ty k R L d0 C w' v xs := by
 have hlt := h.lt
 obtain ⟨vals, h1, h2, h3, h4⟩ := h
 refine ⟨vals, h1.kept hg ?_, h2, h3, fun j hj => ?_⟩
 ·cases hv : v.ownBlock with
  | none => exact Or.inl rfl
  | some g =>
   right
   intro he
   have := hlt g hv
   have := hr g he.symm
   omega
 ·obtain ⟨S, s1, s2⟩ := h4 j hj
  refine ⟨S, fun q hq => ⟨(s1 q hq).1, Nat.lt_of_lt_of_le (s1 q hq).2.1 hg.size, (s1 q hq).2.2⟩, hR.keep s2 fun q hq => hg.block q (s1 q hq).2.1 fun he => ?_⟩
  have := s1 q hq
  have := hr q he.symm
  omega
theorem OwnDeep.below (hR : RecS k R) (h : OwnDeep ty k R L d0 C w v xs) (hb : Below w.heap.size w w') : OwnDeep ty k R L d0 C w' v xs :=
 h.kept hR (row := none) ⟨hb.os, hb.tape, hb.output, hb.size, fun q hq _ => hb.block q hq⟩ (fun q hq => by cases hq)
theorem OwnDeep.form (h : OwnDeep ty k R L d0 C w v xs) : ∃ a cap, v = .slice a xs.length cap := by
 obtain ⟨vals, h1, _⟩ := h
 rcases h1.2 with ⟨rfl, hn⟩ | ⟨g, cap, cur, rfl, rest⟩
 ·exact ⟨none, 0, by rw [hn]⟩
 ·exact ⟨_, cap, rfl⟩
theorem OwnDeep.form' (h : OwnDeep ty k R L d0 C w v xs) : ∃ a n cap, v = .slice a n cap := by
 obtain ⟨a, c, e⟩ := h.form
 exact ⟨a, _, c, e⟩
theorem OwnDeep.vals_len (hR : RecS k R) {vals : List (List Value)} (h2 : vals.length = xs.length) (h4 : ∀ j, j < xs.length → ∃ S : Nat → Prop, (∀ q, S q → C ≤ q ∧ q < w.heap.size ∧ v.ownBlock ≠ some q) ∧ R S w (vals.getD j []) (xs.getD j d0)) : ∀ c ∈ vals, c.length = k := by
 intro c hc
 obtain ⟨j, hj, rfl⟩ := List.getElem_of_mem hc
 obtain ⟨S, _, s2⟩ := h4 j (by omega)
 have := hR.len s2
 rw [List.getD_eq_getElem?_getD, List.getElem?_eq_getElem hj] at this
 exact this
/-- read by the relation by bounds -/
theorem OwnDeep.isRecs (hR : RecS k R) {R' : Nat → World → List Value → D → Prop} (hm : ∀ (S : Nat → Prop) c d, (∀ q, S q → q < w.heap.size) → R S w c d → R' w.heap.size w c d) (h : OwnDeep ty k R L d0 C w v xs) : IsRecs k R' L d0 w.heap.size w v xs := by
 obtain ⟨vals, ⟨hl, h1⟩, h2, h3, h4⟩ := h
 have hvl := OwnDeep.vals_len hR h2 h4
 rcases h1 with ⟨rfl, hn⟩ | ⟨g, cap, cur, rfl, hb, hg, hnc, hcm, hcs, htk⟩
 ·exact ⟨0, 0, 0, ⟨none, by rw [hn], by omega, by omega, Or.inr hn⟩, h3, fun j hj => by omega⟩
 ·refine ⟨g, 0, cap, ⟨some ⟨g, 0, none⟩, rfl, hnc, by unfold maxLen at hcm; omega, Or.inl rfl⟩, h3, fun j hj => ?_⟩
  obtain ⟨S, s1, s2⟩ := h4 j hj
  refine ⟨vals.getD j [], fun q u hq => ⟨(Array.getElem?_eq_some_iff.1 hg).1, ?_⟩, hm S _ _ (fun q hq => (s1 q hq).2.1) s2⟩
  have hq' : q < k := by
   have h5 := hR.len s2
   have := (List.getElem?_eq_some_iff.1 hq).1
   omega
  have hf := flat_getK hvl j q (by omega) hq'
  rw [hq] at hf
  have hlt : j * k + q < xs.length * k := by
   have : (j + 1) * k ≤ xs.length * k := Nat.mul_le_mul_right _ (by omega)
   rw [Nat.add_mul] at this
   omega
  simp only [World.cell?, hg, Nat.zero_add]
  have : (cur.toList.take (xs.length * k))[j * k + q]? = vals.flatten[j * k + q]? := by rw [htk]
  rw [List.getElem?_take, if_pos hlt, hf] at this
  simpa using this
/-- a source of records: what they lead to lies from C on, apart from block g -/
def SrcDeep (k : Nat) (R : (Nat → Prop) → World → List Value → D → Prop) (d0 : D) (C : Nat) (g : Option Nat) (w : World) (vx : Value) (ys : List D) : Prop :=
 ∃ vals : List (List Value), Src w k vx ys.length vals.flatten ∧ vals.length = ys.length ∧ ∀ j, j < ys.length → ∃ S : Nat → Prop, (∀ q, S q → C ≤ q ∧ q < w.heap.size ∧ g ≠ some q) ∧ R S w (vals.getD j []) (ys.getD j d0)
theorem srcDeep_one (hR : RecS k R) {g : Option Nat} {b c : Nat} {cs : List Value} {d : D} (hc : ∀ q u, cs[q]? = some u → w.cell? ⟨b, q, none⟩ = some u) {S : Nat → Prop} (hS : ∀ q, S q → C ≤ q ∧ q < w.heap.size ∧ g ≠ some q) (hd : R S w cs d) : SrcDeep k R d0 C g w (.slice (some ⟨b, 0, none⟩) 1 c) [d] := by
 refine ⟨[cs], ⟨_, c, rfl, by simp [hR.len hd], fun q u hu => ⟨_, rfl, ?_⟩, fun u hu => hR.one hd u (by simpa using hu)⟩, rfl, fun j hj => ?_⟩
 ·rw [addP, Nat.zero_add]
  exact hc q u (by simpa using hu)
 ·obtain rfl : j = 0 := by simpa using hj
  exact ⟨S, hS, hd⟩
theorem run_append_deep (hR : RecS k R) (hk : 0 < k) {bytes : Nat} {zero : Value} {t : TypeId} (hinfo : (Try.prog.info? ty).map (fun i => (i.zero, i.size, i.bytes)) = some (some zero, k, bytes)) (ht : Try.prog.underlying t = some (.slice ty)) (hzs : zero.cells.size = k) (hLb : L * bytes ≤ 140737488355328) (hLm : L ≤ maxLen)
  {vx : Value} {ys : List D} {oty : TypeId} (hown : OwnDeep ty k R L d0 C w v xs) (hs : SrcDeep k R d0 C v.ownBlock w vx ys) (hlen : xs.length + ys.length ≤ L) (hC : C ≤ w.heap.size) :
  ∃ v' w', (Builtin.append_ #[t, t] oty #[v, vx]).run Try.prog w = .ok v' w' ∧ OwnDeep ty k R L d0 C w' v' (xs ++ ys) ∧ w.grownBy w' v.ownBlock ∧ (v'.ownBlock = v.ownBlock ∨ v'.ownBlock = some w.heap.size) := by
 obtain ⟨i0, hi, hz0, hz1, hz2⟩ := info_parts hinfo
 obtain ⟨vals, o1, o2, o3, o4⟩ := hown
 obtain ⟨news, s1, s2, s3⟩ := hs
 obtain ⟨v', w', h1, h2, h3, h4⟩ := run_append_gen (P := Try.prog) w C t oty ty i0 _ k bytes ht hi hz0 hz1 hz2 hzs hk v xs.length _ o1 vx ys.length _ s1 (by omega) (Nat.le_trans (Nat.mul_le_mul_right _ hlen) hLb) hC
 have hne : ∀ S : Nat → Prop, (∀ q, S q → C ≤ q ∧ q < w.heap.size ∧ v.ownBlock ≠ some q) → ∀ q, S q → C ≤ q ∧ q < w'.heap.size ∧ v'.ownBlock ≠ some q := fun S hS q hq => by
  obtain ⟨q1, q2, q3⟩ := hS q hq
  refine ⟨q1, Nat.lt_of_lt_of_le q2 h3.size, fun he => ?_⟩
  rcases h4 with h4 | h4
  ·exact q3 (h4.symm.trans he)
  ·rw [h4] at he
   injection he with he
   omega
 have hkp : ∀ S : Nat → Prop, (∀ q, S q → C ≤ q ∧ q < w.heap.size ∧ v.ownBlock ≠ some q) → ∀ q, S q → w'.heap[q]? = w.heap[q]? := fun S hS q hq => h3.block q (hS q hq).2.1 (fun he => (hS q hq).2.2 he.symm)
 refine ⟨v', w', h1, ⟨vals ++ news, by rw [List.flatten_append]; simpa using h2, by simp [o2, s2], by simpa using hlen, fun j hj => ?_⟩, h3, h4⟩
 by_cases e : j < xs.length
 ·have e1 : (vals ++ news).getD j [] = vals.getD j [] := by rw [List.getD_eq_getElem?_getD, List.getD_eq_getElem?_getD, List.getElem?_append_left (by omega)]
  have e2 : (xs ++ ys).getD j d0 = xs.getD j d0 := by rw [List.getD_eq_getElem?_getD, List.getD_eq_getElem?_getD, List.getElem?_append_left e]
  rw [e1, e2]
  obtain ⟨S, t1, t2⟩ := o4 j e
  exact ⟨S, hne S t1, hR.keep t2 (hkp S t1)⟩
 ·have e1 : (vals ++ news).getD j [] = news.getD (j - xs.length) [] := by rw [List.getD_eq_getElem?_getD, List.getD_eq_getElem?_getD, List.getElem?_append_right (by omega), o2]
  have e2 : (xs ++ ys).getD j d0 = ys.getD (j - xs.length) d0 := by rw [List.getD_eq_getElem?_getD, List.getD_eq_getElem?_getD, List.getElem?_append_right (by omega)]
  rw [e1, e2]
  obtain ⟨S, t1, t2⟩ := s3 (j - xs.length) (by simp at hj; omega)
  exact ⟨S, hne S t1, hR.keep t2 (hkp S t1)⟩
theorem append_deepA (hR : RecS k R) (hk : 0 < k) {bytes : Nat} {zero : Value} {t : TypeId} (hinfo : (Try.prog.info? ty).map (fun i => (i.zero, i.size, i.bytes)) = some (some zero, k, bytes)) (ht : Try.prog.underlying t = some (.slice ty)) (hzs : zero.cells.size = k) (hLb : L * bytes ≤ 140737488355328) (hLm : L ≤ maxLen)
  {ops : Array Oper} {rest : List Oper} {o : Oper} {a : Act} {Q : Exit → Act → World → Prop} (hgd : o.guard = none) (s x : Operand)
  (ho : o.op = .call { callee := .builtin .append, args := #[s, x], argTypes := #[t, t] })
  {vx : Value} {ys : List D} (hs : a.eval s = v) (hown : OwnDeep ty k R L d0 C w v xs) (hx : a.eval x = vx) (hsrc : SrcDeep k R d0 C v.ownBlock w vx ys) (hlen : xs.length + ys.length ≤ L) (hC : C ≤ w.heap.size)
  (h : ∀ v' w', OwnDeep ty k R L d0 C w' v' (xs ++ ys) → w.grownBy w' v.ownBlock → (v'.ownBlock = v.ownBlock ∨ v'.ownBlock = some w.heap.size) → wpList Try.prog ops Q rest (a.put o.dst v') w') : wpList Try.prog ops Q (o :: rest) a w := by
 refine wpList_plain hgd fun K hK => ?_
 obtain ⟨v', w', h1, h2, h3, h4⟩ := run_append_deep hR hk hinfo ht hzs hLb hLm (oty := o.type) hown hsrc hlen hC
 exact wp_of_append w ho hs hx h1 (hK _ _ (h v' w' h2 h3 h4))
end
end Go.Proofs.Yteiaeaciaglmgaa
set_option linter.unusedVariables false
set_option linter.unusedSimpArgs false
namespace Go.Proofs.Yteiaeaciaglmgaa
open Go.RowKit
set_option maxHeartbeats 2000000 in
set_option maxRecDepth 100000 in
/-- frankingref29.Ways -/
theorem ways29_any (B : Nat) (w : World) (vs vl : Value) (f : Flow) (hf : IsFlow B w vs vl f) (hB : B ≤ w.heap.size) (hck : checkE f = 0) :
  Calls Try.prog 30 #[.agg #[vs, vl]] w fun e w' => e = .returned (.int .i64 (waysI f f.lots.length)) ∧ Below w.heap.size w w' := by
 obtain ⟨rfl, ⟨hs1, hs2⟩, hl⟩ := hf
 obtain ⟨b, off, cap, ⟨a, rfl, hcap, hmax, ha⟩, hlen, hc⟩ := hl
 have HC := Lib.hid hc
 have HA := Lib.hid ha
 have HCK := Lib.hid hck
 have hl2 : f.lots.length ≤ 2000 := (checkE_ok hck).2.2.1
 clear hc ha hck
 go_enter Try.func30, Try.ntmps30
 go_wp2
 go_loop [3, 4] (fun n i => ∃ k : Nat, k ≤ f.lots.length ∧ i = .int .i64 k ∧ n = .int .i64 (waysI f k)) (fun _ i => f.lots.length - (intOf i).toNat)
 case atStart => exact ⟨0, by omega, rfl, rfl⟩
 case round =>
  obtain ⟨k, hk, rfl, rfl⟩ := hrel
  by_cases hlt : k < f.lots.length
  ·obtain rfl : a = some ⟨b, off, none⟩ := by rcases HA.out with h | h; exact h; omega
   obtain ⟨vi, vk, vp, ⟨hb, c1⟩, ⟨_, c2⟩, _, ⟨b1, off1, cap1, ⟨a1, rfl, _⟩, _⟩, rfl, _⟩ := HC.out k hlt
   have hbB : b < w.heap.size := by omega
   have HS : Hid (waysI f (k + 1) = if (lotAt f.lots k).known then waysI f k else wayI (waysI f k) (lotAt f.lots k).ins.length) := Lib.hid rfl
   have hbd := waysI_bd f k
   obtain ⟨N, hN⟩ : ∃ N, waysI f k = N := ⟨_, rfl⟩
   rw [hN] at hbd HS ⊢
   obtain ⟨hb1, hb2⟩ := hbd
   have HO := Lib.hid (wayI_one hb2)
   have HBD := Lib.hid (wayI_bd hb1 hb2)
   have hni : 1 ≤ (lotAt f.lots k).ins.length ∧ (lotAt f.lots k).ins.length ≤ 50000 := by
    obtain ⟨_, _, _, _, hlots⟩ := checkE_ok HCK.out
    have h1 := (lotB_parts (lotsB_lot hlots hlt)).1
    have h2 := before_bd HCK.out (show k + 1 ≤ f.lots.length by omega)
    have h3 := before_bd HCK.out (show k ≤ f.lots.length by omega)
    simp only [beforeI] at h2
    exact ⟨List.length_pos_iff.2 h1, by omega⟩
   obtain ⟨n, hn⟩ : ∃ n, (lotAt f.lots k).ins.length = n := ⟨_, rfl⟩
   rw [hn] at c1 HS hni
   obtain ⟨hn1, hn2⟩ := hni
   clear hN hn
   cases hkn : (lotAt f.lots k).known
   ·rw [hkn] at c2 HS
    clear hkn
    go_wp2
    go_loop [3, 5] (fun v i => ∃ j : Nat, 1 ≤ j ∧ j ≤ n ∧ i = .int .i64 ((j : Int) + 1) ∧ v = .int .i64 (wayI N j)) (fun _ i => n + 1 - (intOf i).toNat)
    case atStart => exact ⟨1, by omega, hn1, rfl, by rw [HO.out]⟩
    case round =>
     obtain ⟨j, hj1, hj, rfl, rfl⟩ := hrel
     have HSJ : Hid (wayI N (j + 1) = min (wayI N j * ((j : Int) + 1)) 5041) := Lib.hid rfl
     obtain ⟨q1, q2⟩ := HBD.out j
     have hmul : 1 ≤ wayI N j * ((j : Int) + 1) ∧ wayI N j * ((j : Int) + 1) ≤ 5041 * 50001 := by
      have h1 := Int.mul_pos (a := wayI N j) (b := (j : Int) + 1) (by omega) (by omega)
      have h2 := Int.mul_le_mul q2 (show (j : Int) + 1 ≤ 50001 by omega) (by omega) (by omega)
      omega
     obtain ⟨x, hx⟩ : ∃ x, wayI N j = x := ⟨_, rfl⟩
     rw [hx] at HSJ hmul q1 q2 ⊢
     obtain ⟨y, hy⟩ : ∃ y, x * ((j : Int) + 1) = y := ⟨_, rfl⟩
     have HX := Lib.hid hx
     rw [hy] at HSJ hmul
     obtain ⟨hm1, hm2⟩ := hmul
     clear hx
     by_cases hjl : (j : Int) + 1 ≤ (n : Int)
     ·have hjl' : decide ((j : Int) + 1 ≤ (n : Int)) = true := decide_eq_true hjl
      go_wp2
      go_round
      case rel => exact ⟨j + 1, by omega, by omega, by go_num, by rw [HSJ.out, show min y 5041 = if 5041 < y then 5041 else y by split <;> omega]⟩
      case measure => simp [intOf]; omega
     ·have hjl' : decide ((j : Int) + 1 ≤ (n : Int)) = false := decide_eq_false hjl
      obtain rfl : j = n := by omega
      go_wp2
      go_round
      case rel => exact ⟨k + 1, by omega, by go_num, by rw [HS.out, if_neg (by decide), HX.out]⟩
      case measure => simp [intOf]; omega
   ·rw [hkn] at c2 HS
    clear hkn
    go_wp2
    go_loop [3, 5] (fun v i => i = .int .i64 2 ∧ v = .int .i64 N) (fun _ i => 0)
    case atStart => exact ⟨rfl, rfl⟩
    case round =>
     obtain ⟨rfl, rfl⟩ := hrel
     by_cases hjl : (2 : Int) ≤ (n : Int)
     ·have hjl' : decide ((2 : Int) ≤ (n : Int)) = true := decide_eq_true hjl
      go_wp2
      go_round
      case rel => exact ⟨k + 1, by omega, by go_num, by rw [HS.out]; simp⟩
      case measure => simp [intOf]; omega
     ·have hjl' : decide ((2 : Int) ≤ (n : Int)) = false := decide_eq_false hjl
      go_wp2
      go_round
      case rel => exact ⟨k + 1, by omega, by go_num, by rw [HS.out]; simp⟩
      case measure => simp [intOf]; omega
  ·obtain rfl : k = f.lots.length := by omega
   go_wp2
   go_ret
   exact ⟨rfl, (Below.refl _ _).alloc (Nat.le_refl _) _⟩
set_option maxHeartbeats 2000000 in
set_option maxRecDepth 100000 in
/-- frankingref29.Error -/
theorem error29_any (B : Nat) (w : World) (vs vl va : Value) (f : Flow) (zs : List Int) (hf : IsFlow B w vs vl f) (hx : IsInts B w va zs) (hB : B ≤ w.heap.size) :
  Calls Try.prog 26 #[.agg #[vs, vl], va] w fun e w' => e = .returned (.int .i64 (errX f zs)) ∧ Below w.heap.size w w' := by
 have HF := Lib.hid hf
 obtain ⟨bx, ox, cx, ⟨ax, rfl, hx1, hx2, _⟩, hx3, _⟩ := hx
 obtain ⟨rfl, ⟨hs1, hs2⟩, hl⟩ := hf
 obtain ⟨b, off, cap, ⟨a, rfl, hcap, hmax, ha⟩, hlen, hc⟩ := hl
 clear hc ha
 have HC := Lib.hid (fun o => check25_any B (w.alloc o) _ _ f (HF.out.below (box_below hB o) (Nat.le_refl _)) (by simp; omega))
 have HW := Lib.hid (fun W (hW : Below w.heap.size w W) => ways29_any B W _ _ f (HF.out.below hW hB) (Nat.le_trans hB hW.size))
 by_cases hck : checkE f = 0
 ·have HE : Hid (errX f zs = if 5040 < waysI f f.lots.length then 2 else if (zs.length : Int) ≠ f.senders then 1 else 0) := Lib.hid (by unfold errX; rw [if_neg (by simp [hck])])
  have HCK := Lib.hid hck
  rw [hck] at HC
  clear hck
  go_enter Try.func26, Try.ntmps26
  go_wp2_with fail
  refine (HC.out _).mono ?_
  rintro e w1 ⟨rfl, hb1⟩
  have HX1 := Lib.hid ((Box.new w #[.int .i64 f.senders, .slice a f.lots.length cap] 24).ext hb1)
  have HW1 : Hid (Below w.heap.size w w1) := Lib.hid ((box_below' w _).trans (hb1.mono (by simp)))
  obtain ⟨z1, r1⟩ := HX1.out
  clear hb1
  go_wp2_with fail
  refine (HW.out w1 HW1.out HCK.out).mono ?_
  rintro e w2 ⟨rfl, hb2⟩
  have HX2 := Lib.hid (HX1.out.ext hb2)
  have HW2 : Hid (Below w.heap.size w w2) := Lib.hid (HW1.out.trans (hb2.mono HW1.out.size))
  clear hb2 z1 r1
  obtain ⟨z2, r2⟩ := HX2.out
  obtain ⟨N, hN⟩ : ∃ N, waysI f f.lots.length = N := ⟨_, rfl⟩
  rw [hN] at HE ⊢
  clear hN
  by_cases h1 : 5040 < N
  ·have h1' : decide (5040 < N) = true := decide_eq_true h1
   have HE2 : Hid (errX f zs = 2) := Lib.hid (by rw [HE.out, if_pos h1])
   clear h1
   go_wp2
   go_ret
   exact ⟨by rw [HE2.out]; rfl, HW2.out⟩
  ·have h1' : decide (5040 < N) = false := decide_eq_false h1
   by_cases h2 : (zs.length : Int) = f.senders
   ·have h2' : ((zs.length : Int) != f.senders) = false := by rw [h2]; simp
    have HE2 : Hid (errX f zs = 0) := Lib.hid (by rw [HE.out, if_neg h1, if_neg (by simpa using h2)])
    clear h1 h2
    go_wp2
    go_ret
    exact ⟨by rw [HE2.out]; rfl, HW2.out⟩
   ·have h2' : ((zs.length : Int) != f.senders) = true := by simpa using h2
    have HE2 : Hid (errX f zs = 1) := Lib.hid (by rw [HE.out, if_neg h1, if_pos h2])
    clear h1 h2
    go_wp2
    go_ret
    exact ⟨by rw [HE2.out]; rfl, HW2.out⟩
 ·have HE : Hid (errX f zs = checkE f) := Lib.hid (by unfold errX; rw [if_pos hck])
  have hck1 : (checkE f != 0) = true := by simpa using hck
  clear hck
  go_enter Try.func26, Try.ntmps26
  go_wp2_with fail
  refine (HC.out _).mono ?_
  rintro e w1 ⟨rfl, hb1⟩
  have HW1 : Hid (Below w.heap.size w w1) := Lib.hid ((box_below' w _).trans (hb1.mono (by simp)))
  clear hb1
  go_wp2
  go_ret
  exact ⟨by rw [HE.out]; rfl, HW1.out⟩
end Go.Proofs.Yteiaeaciaglmgaa
set_option linter.unusedVariables false
set_option linter.unusedSimpArgs false
namespace Go.Proofs.Yteiaeaciaglmgaa
open Go.RowKit
theorem src_one {w : World} {g c : Nat} {u : Value} (hg : w.cell? ⟨g, 0, none⟩ = some u) (h1 : u.oneCell' = true) : Src w 1 (.slice (some ⟨g, 0, none⟩) 1 c) 1 [u] := by
 refine ⟨_, c, rfl, rfl, fun j u' hj => ?_, by simpa using h1⟩
 match j, hj with
 | 0, hj => simp at hj; subst hj; exact ⟨_, rfl, by simpa [Addr.add] using hg⟩
end Go.Proofs.Yteiaeaciaglmgaa
set_option linter.unusedVariables false
set_option linter.unusedSimpArgs false
namespace Go.Proofs.Yteiaeaciaglmgaa
open Go.RowKit
theorem OwnLots.isLots {C : Nat} {w : World} {v : Value} {ls : List Lot} (h : OwnLots C w v ls) (hC : C ≤ w.heap.size) : IsLots w.heap.size w v ls := by
 obtain ⟨vals, ⟨hl, h1⟩, h2, h3, h4⟩ := h
 rcases h1 with ⟨rfl, hn⟩ | ⟨g, cap, cur, rfl, hb, hg, hnc, hcm, hcs, htk⟩
 ·exact ⟨0, 0, 0, ⟨none, by rw [hn], by omega, by omega, Or.inr hn⟩, h3, fun j hj => by omega⟩
 ·refine ⟨g, 0, cap, ⟨some ⟨g, 0, none⟩, rfl, hnc, by unfold maxLen at hcm; omega, Or.inl rfl⟩, h3, fun j hj => ⟨(v3At vals j).i, (v3At vals j).k, (v3At vals j).p, ?_⟩⟩
  have hgl := (Array.getElem?_eq_some_iff.1 hg).1
  have key : ∀ q u, q < ls.length * 3 → (flat vals)[q]? = some u → w.cell? ⟨g, 0 + q, none⟩ = some u := by
   intro q u hq hu
   simp only [World.cell?, hg, Nat.zero_add]
   have : (cur.toList.take (ls.length * 3))[q]? = (flat vals)[q]? := by rw [htk]
   rw [List.getElem?_take, if_pos hq, hu] at this
   simpa using this
  have hf := flat_get vals j (by omega)
  exact ⟨⟨hgl, key _ _ (by omega) hf.1⟩, ⟨hgl, key _ _ (by omega) hf.2.1⟩, ⟨hgl, key _ _ (by omega) hf.2.2⟩, (h4 j hj).mono hC⟩
theorem OwnLots.ltX {C : Nat} {w : World} {v : Value} {ls : List Lot} (h : OwnLots C w v ls) : ∀ k, v.ownBlock = some k → C ≤ k ∧ k < w.heap.size := by
 obtain ⟨vals, h1, _⟩ := h
 exact fun k hk => h1.lt k hk
theorem OwnLots.setX {C p : Nat} {w : World} {v : Value} {ls : List Lot} (h : OwnLots C w v ls) (hC : C ≤ w.heap.size) (hp : C ≤ p) (hne : v.ownBlock ≠ some p) (i : Nat) (u : Value) : OwnLots C (w.setCell ⟨p, i, none⟩ u) v ls :=
 h.kept (grown_setCell w ⟨p, i, none⟩ u) (fun k hk => by cases hk; exact hp) hC (.inr hne)
theorem below_drewN {B : Nat} {w w' : World} (h : Below B w w') (n : Nat) : Below B w (w'.drewN n) := h.trans (Drew.below ⟨n, rfl⟩ B)
/-- fb: the lot is made, fa: it is appended, fs: the list is stored; w0: the world at the function's start, w1: at the region's -/
structure ApL (C c2 : Nat) (w0 w1 : World) (s vL : Value) (ls : List Lot) (x : Lot) (lc : Array Value) (fb fa fs : Bool) (xb xa : Value) (w : World) : Prop where
 hb : Below C w0 w
 hC : C ≤ c2 ∧ c2 < w1.heap.size ∧ C ≤ w1.heap.size
 sz : w1.heap.size ≤ w.heap.size
 ho : ∀ k, k < w1.heap.size → k ≠ c2 → vL.ownBlock ≠ some k → w.heap[k]? = w1.heap[k]?
 nv : vL.ownBlock ≠ some c2 ∧ ∀ k, vL.ownBlock = some k → k < w1.heap.size
 hv : fa = false → OwnLots C w vL ls
 hq : fb = true → fa = false → ∃ q, xb = .slice (some ⟨q, 0, none⟩) 1 1 ∧ w1.heap.size ≤ q ∧ CellsN w q lc
 ha : fa = true → OwnLots C w xa (ls ++ [x]) ∧ xa.ownBlock ≠ some c2 ∧ (xa.ownBlock = vL.ownBlock ∨ ∃ q, xa.ownBlock = some q ∧ w1.heap.size ≤ q)
 hc : fs = false → CellsN w c2 #[s, vL]
 he : fs = true → CellsN w c2 #[s, xa]
 c1 : fs = true → fa = true
 c0 : fa = true → fb = true
section
variable {C c2 : Nat} {w0 w1 : World} {s vL : Value} {ls : List Lot} {x : Lot} {lc : Array Value} {fb fa fs : Bool} {xb xa : Value} {w : World}
theorem ApL.start (hb : Below C w0 w1) (hC : C ≤ c2) (h2 : C ≤ w1.heap.size) (hv : OwnLots C w1 vL ls) (nv : vL.ownBlock ≠ some c2) (hc : CellsN w1 c2 #[s, vL]) (n : Nat) : ApL C c2 w0 w1 s vL ls x lc false false false xb xa (w1.drewN n) :=
 {hb := hb.trans (below_drewN (Below.refl _ _) n), hC := ⟨hC, hc.lt, h2⟩, sz := Nat.le_refl _, ho := (fun k _ _ _ => rfl), nv := ⟨nv, fun k hk => (hv.ltX k hk).2⟩,
  hv := (fun _ => hv), hq := (fun h => by cases h), ha := (fun h => by cases h), hc := (fun _ => hc), he := (fun h => by cases h), c1 := (fun h => by cases h), c0 := (fun h => by cases h) }
variable (h : ApL C c2 w0 w1 s vL ls x lc fb fa fs xb xa w)
include h
theorem ApL.sb (hi : fb = false) {xb' : Value} (t : TypeId) (he : xb' = .slice (some ⟨w.heap.size, 0, none⟩) 1 1) : ApL C c2 w0 w1 s vL ls x lc true fa fs xb' xa (w.alloc (.cells lc t)) := by
 have hfa : fa = false := by
  cases e : fa with
  | false => rfl
  | true => have := h.c0 e; rw [hi] at this; cases this
 have hfs : fs = false := by
  cases e : fs with
  | false => rfl
  | true => have := h.c1 e; rw [hfa] at this; cases this
 have hz := Nat.le_trans h.hC.2.2 h.sz
 subst hfa hfs
 exact {
  hb := h.hb.alloc hz _, hC := h.hC, sz := (by have := h.sz; simp; omega), ho := (fun k hk h1 h2 => ((box_below' w (.cells lc t)).block k (by have := h.sz; omega)).trans (h.ho k hk h1 h2)), nv := h.nv,
  hv := (fun _ => (h.hv rfl).allocX hz _), hq := (fun _ _ => ⟨_, he, h.sz, CellsN.new w lc t⟩), ha := (fun e => by cases e), hc := (fun _ => (h.hc rfl).alloc _), he := (fun e => by cases e), c1 := (fun e => by cases e), c0 := (fun e => by cases e) }
theorem ApL.sa (hi : fa = false) (hfb : fb = true) {v' : Value} {w' : World} (ho : OwnLots C w' v' (ls ++ [x])) (hg : w.grownBy w' vL.ownBlock) (hat : v'.ownBlock = vL.ownBlock ∨ v'.ownBlock = some w.heap.size) : ApL C c2 w0 w1 s vL ls x lc fb true fs xb v' w' := by
 have hfs : fs = false := by
  cases e : fs with
  | false => rfl
  | true => have := h.c1 e; rw [hi] at this; cases this
 have hz := Nat.le_trans h.hC.2.2 h.sz
 have hlt := h.hv hi |>.ltX
 subst hi hfs
 have hne : v'.ownBlock ≠ some c2 := by
  rcases hat with e | e
  ·rw [e]; exact h.nv.1
  ·rw [e]; intro e'; have := h.hC.2.1; have := h.sz; simp at e'; omega
 exact {
  hb := h.hb.grown hg hz (fun k hk => (hlt k hk).1), hC := h.hC, sz := Nat.le_trans h.sz hg.size, ho := (fun k hk h1 h2 => (hg.block k (by have := h.sz; omega) (fun e => h2 e.symm)).trans (h.ho k hk h1 h2)), nv := h.nv,
  hv := (fun e => by cases e), hq := (fun _ e => by cases e), ha := (fun _ => ⟨ho, hne, by rcases hat with e | e; exact .inl e; exact .inr ⟨_, e, h.sz⟩⟩), hc := (fun _ => (h.hc rfl).grown hg (fun e => h.nv.1 e.symm)), he := (fun e => by cases e), c1 := (fun e => by cases e), c0 := (fun _ => hfb) }
theorem ApL.ss (hi : fs = false) (hfa : fa = true) : ApL C c2 w0 w1 s vL ls x lc fb fa true xb xa (w.setCell ⟨c2, 1, none⟩ xa) := by
 have hz := Nat.le_trans h.hC.2.2 h.sz
 subst hi hfa
 obtain ⟨h1, h2, h3⟩ := h.ha rfl
 have hg := grown_setCell w ⟨c2, 1, none⟩ xa
 exact {
  hb := h.hb.setCell (p := ⟨c2, 1, none⟩) h.hC.1 _, hC := h.hC, sz := Nat.le_trans h.sz hg.size, ho := (fun k hk q1 q2 => (hg.block k (by have := h.sz; omega) (fun e => q1 (by simpa using e))).trans (h.ho k hk q1 q2)), nv := h.nv,
  hv := (fun e => by cases e), hq := (fun _ e => by cases e), ha := (fun _ => ⟨h1.setX hz h.hC.1 h2 1 _, h2, h3⟩), hc := (fun e => by cases e), he := (fun _ => by simpa using (h.hc rfl).set 1 xa), c1 := (fun _ => rfl), c0 := h.c0 }
/-- what other blocks hold -/
theorem ApL.cell {k i : Nat} (hk : k < w1.heap.size) (h1 : k ≠ c2) (h2 : vL.ownBlock ≠ some k) : w.cell? ⟨k, i, none⟩ = w1.cell? ⟨k, i, none⟩ := by
 simp only [World.cell?, h.ho k hk h1 h2]
end
end Go.Proofs.Yteiaeaciaglmgaa
set_option linter.unusedVariables false
set_option linter.unusedSimpArgs false
namespace Go.Proofs.Yteiaeaciaglmgaa
open Go.RowKit
theorem srcLots_one {C g c : Nat} {w : World} {vi vk vp : Value} {d : Lot} (h1 : w.cell? ⟨g, 0, none⟩ = some vi) (h2 : w.cell? ⟨g, 1, none⟩ = some vk) (h3 : w.cell? ⟨g, 2, none⟩ = some vp) (hd : IsLot C w vi vk vp d) : SrcLots C w (.slice (some ⟨g, 0, none⟩) 1 c) [d] := by
 refine ⟨[⟨vi, vk, vp⟩], ⟨_, c, rfl, rfl, fun q u hu => ?_, ?_⟩, rfl, fun j hj => ?_⟩
 ·refine ⟨_, rfl, ?_⟩
  rw [add3]
  simp only [flat] at hu
  match q, hu with
  | 0, hu => simp at hu; subst hu; simpa using h1
  | 1, hu => simp at hu; subst hu; simpa using h2
  | 2, hu => simp at hu; subst hu; simpa using h3
 ·have := hd.one
  simp [flat, this.1, this.2.1, this.2.2]
 ·have : j = 0 := by simpa using hj
  subst this
  exact hd
theorem wp_name {P : Program} {Q : Exit → Act → World → Prop} {c : Code} {a : Act} {w : World} (h : ∀ W, W = w → Code.wp P c Q a W) : Code.wp P c Q a w := h w rfl
set_option maxHeartbeats 2000000 in
/-- frankingref29.SameWay -/
theorem sameway29_any (B B' : Nat) (w : World) (v v' : Value) (xs ys : List (List Int)) (hv : IsMat B w v xs) (hv' : IsMat B' w v' ys) :
  Calls Try.prog 15 #[v, v'] w fun e w' => e = .returned (.bool (sameM xs ys)) ∧ Drew w w' := by
 obtain ⟨b, off, cap, ⟨a, rfl, hcap, hmax, ha⟩, hlen, hc⟩ := hv
 obtain ⟨b', off', cap', ⟨a', rfl, hcap', hmax', ha'⟩, hlen', hc'⟩ := hv'
 have HC := Lib.hid hc
 have HC' := Lib.hid hc'
 have HA := Lib.hid ha
 have HA' := Lib.hid ha'
 clear hc hc' ha ha'
 by_cases hl : xs.length = ys.length
 ·have hne2 : ((xs.length : Int) != (ys.length : Int)) = false := by rw [hl]; simp
  have HL := Lib.hid hl
  clear hl
  go_enter Try.func15, Try.ntmps15
  go_wp2
  go_loopw [5] (fun i wr => ∃ k : Nat, k ≤ xs.length ∧ i = .int .i64 k ∧ sameMTo xs ys k = true ∧ Drew w wr) (fun i _ => xs.length - (intOf i).toNat)
  case atStart => exact ⟨0, by omega, rfl, rfl, Drew.refl _⟩
  case round =>
   obtain ⟨k, hk, rfl, he, hd⟩ := hrel
   have HE := Lib.hid he
   have HD := Lib.hid hd
   clear he hd
   by_cases h1 : k < xs.length
   ·have h2 : k < ys.length := by rw [← HL.out]; exact h1
    obtain rfl : a = some ⟨b, off, none⟩ := by rcases HA.out with h | h; exact h; omega
    obtain rfl : a' = some ⟨b', off', none⟩ := by rcases HA'.out with h | h; exact h; omega
    obtain ⟨r1, q1, i1⟩ := HC.out k h1
    obtain ⟨r2, q2, i2⟩ := HC'.out k h2
    have c1 := (HD.out.cell _).trans q1.2
    have c2 := (HD.out.cell _).trans q2.2
    have HCC := Lib.hid (fun m => same_any _ (wr.drewN m) r1 r2 (rowAt xs k) (rowAt ys k) ((i1.drew (HD.out.drewN m)).mono (Nat.le_max_left B B')) ((i2.drew (HD.out.drewN m)).mono (Nat.le_max_right B B')))
    have HS : Hid (sameMTo xs ys (k + 1) = (sameMTo xs ys k && sameB (rowAt xs k) (rowAt ys k))) := Lib.hid rfl
    obtain ⟨a1, n1, k1, rfl⟩ : ∃ a n c, r1 = .slice a n c := by obtain ⟨_, _, c, ⟨a, e, _⟩, _⟩ := i1; exact ⟨a, _, c, e⟩
    obtain ⟨a2, n2, k2, rfl⟩ : ∃ a n c, r2 = .slice a n c := by obtain ⟨_, _, c, ⟨a, e, _⟩, _⟩ := i2; exact ⟨a, _, c, e⟩
    clear q1 q2 i1 i2
    go_wp2
    go_quiet ((go_at_call 25; exact Calls.quiet_of (HCC.out _)))
    cases hq : sameB (rowAt xs k) (rowAt ys k)
    ·have HR := Lib.hid (sameM_not hq)
     clear hq
     go_wp2
     go_ret
     exact ⟨by rw [HR.out]; rfl, HD.out.drewN _⟩
    ·have HR : Hid (sameMTo xs ys (k + 1) = true) := Lib.hid (by rw [HS.out, HE.out, hq]; rfl)
     clear hq
     go_wp2
     go_roundw
     case rel => exact ⟨k + 1, by omega, by go_num, HR.out, HD.out.drewN _⟩
     case measure => simp [intOf]; omega
   ·have HR : Hid (sameM xs ys = true) := Lib.hid (sameM_all HL.out (by rw [show xs.length = k by omega]; exact HE.out))
    go_wp2
    go_ret
    exact ⟨by rw [HR.out]; rfl, HD.out⟩
 ·have HR : Hid (sameM xs ys = false) := Lib.hid (sameM_len hl)
  have hne2 : ((xs.length : Int) != (ys.length : Int)) = true := by simp; omega
  clear hl
  go_enter Try.func15, Try.ntmps15
  go_wp2
  go_ret
  exact ⟨by rw [HR.out]; rfl, Drew.refl _⟩
end Go.Proofs.Yteiaeaciaglmgaa
set_option linter.unusedVariables false
set_option linter.unusedSimpArgs false
namespace Go.Proofs.Yteiaeaciaglmgaa
open Go.RowKit
/-- a fact on a value that lasts while older memory stays -/
def Lasts (P : World → Value → Prop) : Prop := ∀ w w' v, P w v → Below w.heap.size w w' → P w' v
end Go.Proofs.Yteiaeaciaglmgaa
set_option linter.unusedVariables false
set_option linter.unusedSimpArgs false
namespace Go.Proofs.Yteiaeaciaglmgaa
open Go.RowKit
theorem IsIntsX.ints {X : Nat → Prop} {w : World} {v : Value} {xs : List Int} (h : IsIntsX X w v xs) : IsInts w.heap.size w v xs := by
 obtain ⟨b, off, cap, h1, h2, h3, h4⟩ := h
 exact ⟨b, off, cap, h1, h2, h3, fun j hj => ⟨(h4 j hj).2.1, (h4 j hj).2.2⟩⟩
def IsMatX (X : Nat → Prop) (w : World) (v : Value) (rows : List (List Int)) : Prop :=
 ∃ b off cap, SliceV v rows.length b off cap ∧ rows.length ≤ 5864062014634 ∧ ∀ j, j < rows.length → ∃ r, X b ∧ b < w.heap.size ∧ w.cell? ⟨b, off + j, none⟩ = some r ∧ IsIntsX X w r (rowAt rows j)
theorem IsIntsX.kept {X : Nat → Prop} {w w' : World} {v : Value} {xs : List Int} (h : IsIntsX X w v xs) (hz : w.heap.size ≤ w'.heap.size) (hk : ∀ q, X q → q < w.heap.size → w'.heap[q]? = w.heap[q]?) : IsIntsX X w' v xs := by
 obtain ⟨b, off, cap, h1, h2, h3, h4⟩ := h
 refine ⟨b, off, cap, h1, h2, h3, fun j hj => ?_⟩
 obtain ⟨a, c, d⟩ := h4 j hj
 exact ⟨a, by omega, (World.cell?_of_block (a := ⟨b, off + j, none⟩) (hk b a c)).trans d⟩
theorem IsMatX.kept {X : Nat → Prop} {w w' : World} {v : Value} {rows : List (List Int)} (h : IsMatX X w v rows) (hz : w.heap.size ≤ w'.heap.size) (hk : ∀ q, X q → q < w.heap.size → w'.heap[q]? = w.heap[q]?) : IsMatX X w' v rows := by
 obtain ⟨b, off, cap, h1, h2, h3⟩ := h
 refine ⟨b, off, cap, h1, h2, fun j hj => ?_⟩
 obtain ⟨r, a, c, d, e⟩ := h3 j hj
 exact ⟨r, a, by omega, (World.cell?_of_block (a := ⟨b, off + j, none⟩) (hk b a c)).trans d, e.kept hz hk⟩
theorem IsMatX.below {X : Nat → Prop} {w w' : World} {v : Value} {rows : List (List Int)} (h : IsMatX X w v rows) (hb : Below w.heap.size w w') : IsMatX X w' v rows := h.kept hb.size (fun q _ hq => hb.block q hq)
theorem IsIntsX.belowX {X : Nat → Prop} {w w' : World} {v : Value} {xs : List Int} (h : IsIntsX X w v xs) (hb : Below w.heap.size w w') : IsIntsX X w' v xs := h.kept hb.size (fun q _ hq => hb.block q hq)
theorem IsMatX.setCell {X : Nat → Prop} {w : World} {v : Value} {rows : List (List Int)} (h : IsMatX X w v rows) {a : Addr} (ha : ¬ X a.block) (u : Value) : IsMatX X (w.setCell a u) v rows :=
 h.kept (by simp [World.setCell]) (fun q hq hz => Below.heap_setCell w a u q (fun e => ha (e ▸ hq)))
theorem IsIntsX.setCellX {X : Nat → Prop} {w : World} {v : Value} {xs : List Int} (h : IsIntsX X w v xs) {a : Addr} (ha : ¬ X a.block) (u : Value) : IsIntsX X (w.setCell a u) v xs :=
 h.kept (by simp [World.setCell]) (fun q hq hz => Below.heap_setCell w a u q (fun e => ha (e ▸ hq)))
theorem IsMatX.mat {X : Nat → Prop} {w : World} {v : Value} {rows : List (List Int)} (h : IsMatX X w v rows) : IsMat w.heap.size w v rows := by
 obtain ⟨b, off, cap, h1, h2, h3⟩ := h
 refine ⟨b, off, cap, h1, h2, fun j hj => ?_⟩
 obtain ⟨r, a, c, d, e⟩ := h3 j hj
 exact ⟨r, ⟨c, d⟩, e.ints⟩
theorem IsMat.matX {X : Nat → Prop} {B : Nat} {w : World} {v : Value} {rows : List (List Int)} (h : IsMat B w v rows) (hB : B ≤ w.heap.size) (hX : ∀ q, q < B → X q) : IsMatX X w v rows := by
 obtain ⟨b, off, cap, h1, h2, h3⟩ := h
 refine ⟨b, off, cap, h1, h2, fun j hj => ?_⟩
 obtain ⟨r, r1, r2⟩ := h3 j hj
 exact ⟨r, hX _ r1.1, by have := r1.1; omega, r1.2, r2.kind hB hX⟩
theorem IsMatX.form {X : Nat → Prop} {w : World} {v : Value} {rows : List (List Int)} (h : IsMatX X w v rows) : ∃ a c, v = .slice a rows.length c := by
 obtain ⟨b, off, cap, ⟨a, rfl, _⟩, _⟩ := h
 exact ⟨a, cap, rfl⟩
theorem IsIntsX.form {X : Nat → Prop} {w : World} {v : Value} {xs : List Int} (h : IsIntsX X w v xs) : ∃ a c, v = .slice a xs.length c := by
 obtain ⟨b, off, cap, ⟨a, rfl, _⟩, _⟩ := h
 exact ⟨a, cap, rfl⟩
theorem IsMatX.nil (X : Nat → Prop) (w : World) : IsMatX X w (.slice none 0 0) [] := ⟨0, 0, 0, ⟨none, rfl, Nat.le_refl _, by omega, .inr rfl⟩, by simp, fun j hj => by simp at hj⟩
theorem IsIntsX.nil (X : Nat → Prop) (w : World) : IsIntsX X w (.slice none 0 0) [] := ⟨0, 0, 0, ⟨none, rfl, Nat.le_refl _, by omega, .inr rfl⟩, by simp, by simp, fun j hj => by simp at hj⟩
def rowRX (X : Nat → Prop) (B : Nat) (w : World) (c : List Value) (d : List Int) : Prop := ∃ v, c = [v] ∧ IsIntsX (fun q => q < B ∧ X q) w v d
theorem rowKX (X : Nat → Prop) : RecK 1 (rowRX X) :=
 {len := fun h => by obtain ⟨v, rfl, _⟩ := h; rfl
  one := fun h u hu => by
   obtain ⟨v, rfl, hv⟩ := h
   obtain rfl := List.mem_singleton.1 hu
   exact hv.ints.one
  below := fun h hb hB => by
   obtain ⟨v, rfl, hv⟩ := h
   exact ⟨v, rfl, hv.kept hb.size (fun q hq _ => hb.block q (by omega))⟩
  mono := fun h hB => by obtain ⟨v, rfl, hv⟩ := h; exact ⟨v, rfl, hv.mono (fun q hq => ⟨by omega, hq.2⟩)⟩ }
theorem IsMatX.recs {X : Nat → Prop} {L : Nat} {w : World} {v : Value} {rows : List (List Int)} (h : IsMatX X w v rows) (hL : rows.length ≤ L) : IsRecs 1 (rowRX X) L [] w.heap.size w v rows := by
 obtain ⟨b, off, cap, h1, h2, h3⟩ := h
 refine ⟨b, off, cap, h1, hL, fun j hj => ?_⟩
 obtain ⟨r, a, c, d, e⟩ := h3 j hj
 refine ⟨[r], fun q u hq => ?_, r, rfl, ?_⟩
 ·obtain ⟨rfl, rfl⟩ : q = 0 ∧ r = u := by
   match q, hq with
   | 0, hq => exact ⟨rfl, by simpa using hq⟩
   | q + 1, hq => simp at hq
  rw [Nat.mul_one]
  exact ⟨c, d⟩
 ·obtain ⟨b', off', cap', g1, g2, g3, g4⟩ := e
  exact ⟨b', off', cap', g1, g2, g3, fun i hi => ⟨⟨(g4 i hi).2.1, (g4 i hi).1⟩, (g4 i hi).2⟩⟩
theorem OwnRecs.matX {X : Nat → Prop} {C L : Nat} {w : World} {v : Value} {rows : List (List Int)} (h : OwnRecs 25 1 (rowRX X) L [] C w v rows) (hC : C ≤ w.heap.size) (hX : ∀ q, C ≤ q → X q) (hL : L ≤ 5864062014634) : IsMatX X w v rows := by
 have hlt := h.lt
 have hr := h.isRecs (rowKX X) hC
 obtain ⟨a, cap, rfl⟩ := h.form
 obtain ⟨b, off, cap', h1, h2, h3⟩ := hr
 refine ⟨b, off, cap', h1, by omega, fun j hj => ?_⟩
 obtain ⟨c, c1, r, rfl, r2⟩ := h3 j hj
 have hc := c1 0 r rfl
 rw [Nat.mul_one] at hc
 obtain ⟨a', e, _, _, ha⟩ := h1
 have hab : a = some ⟨b, off, none⟩ := by
  obtain ⟨rfl, _, _⟩ : a = a' ∧ True ∧ cap = cap' := by simpa using e
  rcases ha with ha | ha
  ·exact ha
  ·omega
 exact ⟨r, hX b (hlt b (by rw [hab]; rfl)).1, hc.1, hc.2, r2.mono (fun q hq => hq.2)⟩
set_option maxHeartbeats 2000000 in
set_option maxRecDepth 100000 in
/-- frankingref29.with -/
theorem with29X_any (X : Nat → Prop) (w : World) (v vp : Value) (rows : List (List Int)) (p : List Int) (hv : IsMatX X w v rows) (hp : IsIntsX X w vp p) (hX : ∀ q, w.heap.size ≤ q → X q) (hl : rows.length ≤ 100000) :
  Calls Try.prog 60 #[v, vp] w fun e w' => ∃ v', e = .returned v' ∧ IsMatX X w' v' (rows ++ [p]) ∧ Below w.heap.size w w' := by
 have HV := Lib.hid (hv.recs (L := 1000000) (by omega))
 have HP : Hid (IsIntsX (fun q => q < w.heap.size ∧ X q) w vp p) := Lib.hid (by
  obtain ⟨b', off', cap', g1, g2, g3, g4⟩ := hp
  exact ⟨b', off', cap', g1, g2, g3, fun i hi => ⟨⟨(g4 i hi).2.1, (g4 i hi).1⟩, (g4 i hi).2⟩⟩)
 obtain ⟨a, cap, rfl⟩ := hv.form
 obtain ⟨ap, cp, rfl⟩ := hp.form
 clear hp hv
 go_enter Try.func60, Try.ntmps60
 go_wp2_with (first
  | (at_builtin; refine append_recsA (rowKX X) (by decide) ints_info Try.underlying26 rfl (by decide) (by decide) rfl (.tmp 5) (.tmp 6) rfl (v := .slice (some ⟨w.heap.size, 0, none⟩) 0 0) (L := 1000000) (C := w.heap.size) (d0 := []) (xs := []) (vx := .slice a rows.length cap) (ys := rows) rfl (OwnRecs.made rfl (Nat.le_refl _)) rfl ((HV.out.below (rowKX X) (box_below' w _) (Nat.le_refl _)).src (rowKX X) (by decide) (Nat.le_refl _)) (by simp; omega) (by simp) ?_; intro v6 w6 ho6 hg6 hat6; have HO6 := Lib.hid ho6; have HB6 : Hid (Below w.heap.size w w6) := Lib.hid ((box_below' w _).grown hg6 (by simp) (fun q hq => by have : q = w.heap.size := (by simpa [Value.ownBlock] using hq.symm); omega)); clear ho6 hg6 hat6)
  | (at_builtin; refine append_recsA (rowKX X) (by decide) ints_info Try.underlying26 rfl (by decide) (by decide) rfl (.tmp 7) (.tmp 9) rfl (v := v6) (L := 1000000) (C := w.heap.size) (d0 := []) (xs := [] ++ rows) (ys := [p]) rfl (HO6.out.below (rowKX X) (box_below' w6 _) HB6.out.size) rfl (srcRecs_one (g := w6.heap.size) (c := 1) (cs := [.slice ap p.length cp]) (d := p) (rowKX X) ?c1 ?c2) ?c3 ?c4 ?c5))
 case c1 =>
  intro q u hq
  have h := (Box.new w6 #[.slice ap p.length cp] 25).2 q
  rw [h]
  simpa using hq
 case c2 => exact ⟨_, rfl, HP.out.kept (by have := HB6.out.size; simp; omega) (fun q hq hz => (HB6.out.trans ((box_below' w6 _).mono HB6.out.size)).block q hz)⟩
 case c3 => simp; omega
 case c4 => have := HB6.out.size; simp; omega
 case c5 =>
  intro v9 w9 ho9 hg9 hat9
  have HO9 := Lib.hid ho9
  have HB9 : Hid (Below w.heap.size w w9) := Lib.hid ((HB6.out.alloc HB6.out.size _).grown hg9 (by have := HB6.out.size; simp; omega) (fun q hq => (HO6.out.lt q hq).1))
  clear ho9 hg9 hat9
  go_wp2
  go_ret
  refine ⟨_, rfl, ?_, HB9.out⟩
  exact HO9.out.matX HB9.out.size hX (by decide)
end Go.Proofs.Yteiaeaciaglmgaa
set_option linter.unusedVariables false
set_option linter.unusedSimpArgs false
namespace Go.Proofs.Yteiaeaciaglmgaa
open Go.RowKit
theorem IsMatX.old {X Y : Nat → Prop} {w : World} {v : Value} {rows : List (List Int)} (h : IsMatX X w v rows) (hY : ∀ q, X q → q < w.heap.size → Y q) : IsMatX Y w v rows := by
 obtain ⟨b, off, cap, h1, h2, h3⟩ := h
 refine ⟨b, off, cap, h1, h2, fun j hj => ?_⟩
 obtain ⟨r, a, c, d, b', off', cap', g1, g2, g3, g4⟩ := h3 j hj
 exact ⟨r, hY _ a c, c, d, b', off', cap', g1, g2, g3, fun i hi => ⟨hY _ (g4 i hi).1 (g4 i hi).2.1, (g4 i hi).2⟩⟩
theorem IsIntsX.old {X Y : Nat → Prop} {w : World} {v : Value} {xs : List Int} (h : IsIntsX X w v xs) (hY : ∀ q, X q → q < w.heap.size → Y q) : IsIntsX Y w v xs := by
 obtain ⟨b', off', cap', g1, g2, g3, g4⟩ := h
 exact ⟨b', off', cap', g1, g2, g3, fun i hi => ⟨hY _ (g4 i hi).1 (g4 i hi).2.1, (g4 i hi).2⟩⟩
/-- how many lots are left, by the state's box -/
def stLeft (n c1 : Nat) (W : World) : Nat := match W.cell? ⟨c1, 0, none⟩ with
 | some (.slice _ m _) => n - m
 | _ => 0
theorem stLeft_at {n c1 m c : Nat} {a : Option Addr} {W : World} (h : W.cell? ⟨c1, 0, none⟩ = some (.slice a m c)) : stLeft n c1 W = n - m := by unfold stLeft; rw [h]
def SetRel (X : Nat → Prop) (w : World) (f : Flow) (fx : Array Value) (S : List (List Int) × List Int) (wr : World) (W' : List (List Int)) (part' : List Int) (vW vP : Value) : Prop :=
 W'.length ≤ f.lots.length ∧ settleM f (f.lots.length - W'.length) W' part' = S ∧ CellsN wr (w.heap.size + 1) #[vW, vP] ∧ CellsN wr (w.heap.size + 1 + 1) #[.slice none 0 0, .slice none 0 0] ∧
  IsMatX (fun q => X q ∧ q ≠ w.heap.size + 1 ∧ q ≠ w.heap.size + 1 + 1) wr vW W' ∧ IsIntsX (fun q => X q ∧ q ≠ w.heap.size + 1 ∧ q ≠ w.heap.size + 1 + 1) wr vP part' ∧ Box wr w.heap.size fx ∧ Below w.heap.size w wr
set_option maxHeartbeats 4000000 in
set_option maxRecDepth 100000 in
/-- frankingref29.settled -/
theorem settled29X (X : Nat → Prop) (B : Nat) (w : World) (vs vl vW vP : Value) (f : Flow) (W : List (List Int)) (part : List Int) (hf : IsFlow B w vs vl f) (hW : IsMatX X w vW W) (hp : IsIntsX X w vP part) (hB : B ≤ w.heap.size) (hXB : ∀ q, q < B → X q) (hXn : ∀ q, w.heap.size ≤ q → X q) (hl : W.length ≤ f.lots.length) (h2 : f.lots.length ≤ 2000) :
  Calls Try.prog 66 #[.agg #[vs, vl], .agg #[vW, vP]] w fun e w' => ∃ vW' vP', e = .returned (.agg #[vW', vP']) ∧ IsMatX X w' vW' (settleS f W part).1 ∧ IsIntsX X w' vP' (settleS f W part).2 ∧ Below w.heap.size w w' := by
 have HWM := Lib.hid hW
 have HPI := Lib.hid hp
 have HXB := Lib.hid hXB
 have HXN := Lib.hid hXn
 obtain ⟨rfl, ⟨hs1, hs2⟩, hl'⟩ := hf
 obtain ⟨b, off, cap, ⟨a, rfl, hcap, hmax, ha⟩, hlen, hc⟩ := hl'
 obtain ⟨bw, ow, cw, ⟨aw, rfl, _⟩, _⟩ := hW
 obtain ⟨ap0, cp0, rfl⟩ := hp.form
 have HC := Lib.hid hc
 have HA := Lib.hid ha
 obtain ⟨S, hS⟩ : ∃ S, settleS f W part = S := ⟨_, rfl⟩
 have HS : Hid (settleM f (f.lots.length - W.length) W part = S) := Lib.hid hS
 rw [hS]
 have HLW := Lib.hid hl
 clear hc ha hp hS hl hXB hXn
 go_enter Try.func66, Try.ntmps66
 go_wp2
 refine wp_name (fun W0 hW0 => ?_)
 have HB0 : Hid (Below w.heap.size w W0) := Lib.hid (by rw [hW0]; exact ((box_below' w _).trans ((box_below' _ _).mono (by simp))).trans ((box_below' _ _).mono (by simp; omega)))
 have HR0 : Hid (SetRel X w f #[.int .i64 f.senders, .slice a f.lots.length cap] S W0 W part (.slice aw W.length cw) (.slice ap0 part.length cp0)) := Lib.hid (by
  refine ⟨HLW.out, HS.out, ?_, ?_, (HWM.out.old (fun q hq hz => ⟨hq, by omega, by omega⟩)).below HB0.out, (HPI.out.old (fun q hq hz => ⟨hq, by omega, by omega⟩)).belowX HB0.out, ?_, HB0.out⟩
  ·rw [hW0]
   have h := CellsN.new (w.alloc (.cells #[.int .i64 f.senders, .slice a f.lots.length cap] 24)) #[.slice aw W.length cw, .slice ap0 part.length cp0] 82
   rw [World.size_alloc] at h
   exact h.alloc _
  ·rw [hW0]
   have h := CellsN.new ((w.alloc (.cells #[.int .i64 f.senders, .slice a f.lots.length cap] 24)).alloc (.cells #[.slice aw W.length cw, .slice ap0 part.length cp0] 82)) #[.slice none 0 0, .slice none 0 0] 82
   simp only [World.size_alloc] at h
   exact h
  ·rw [hW0]; exact ((Box.new w #[.int .i64 f.senders, .slice a f.lots.length cap] 24).alloc _).alloc _)
 clear hW0
 go_loopw [] (fun wr => ∃ W' part' vW' vP', SetRel X w f #[.int .i64 f.senders, .slice a f.lots.length cap] S wr W' part' vW' vP') (fun wr => stLeft f.lots.length (w.heap.size + 1) wr)
 case atStart => exact ⟨_, _, _, _, HR0.out⟩
 case round =>
  obtain ⟨W', part', vW', vP', h1, hse, hcs, hc2, hwx, hpx, hbx, hbr⟩ := hrel
  obtain ⟨aw', cw', rfl⟩ := hwx.form
  obtain ⟨ap', cp', rfl⟩ := hpx.form
  have HSE := Lib.hid hse
  have HCS := Lib.hid hcs
  have HC2 := Lib.hid hc2
  have HWX := Lib.hid hwx
  have HPX := Lib.hid hpx
  have HBX := Lib.hid hbx
  have HBR := Lib.hid hbr
  obtain ⟨z0, r0⟩ := hbx
  have m0 := hcs.cell 0
  have m1 := hcs.cell 1
  have g0 := hcs.free 0
  have g1 := hcs.free 1
  have hz1 := hcs.lt
  have hz2 := hc2.lt
  simp at m0 m1
  have HST : Hid (stLeft f.lots.length (w.heap.size + 1) wr = f.lots.length - W'.length) := Lib.hid (stLeft_at m0)
  clear hse hcs hc2 hwx hpx hbr
  by_cases hlt : W'.length < f.lots.length
  ·obtain ⟨n, hn⟩ : ∃ n, W'.length = n := ⟨_, rfl⟩
   have HN := Lib.hid hn
   rw [hn] at hlt m0 HSE HST h1 HCS HWX
   clear hn
   obtain rfl : a = some ⟨b, off, none⟩ := by rcases HA.out with h | h; exact h; omega
   obtain ⟨vi, vk, vp, q1, q2, q3, hli, rfl, hlp⟩ := HC.out n hlt
   obtain ⟨ai, ci, rfl⟩ := hli.form
   obtain ⟨ap, cp, rfl⟩ := hlp.form
   have c1 := (q1.below HBR.out hB).2
   have c2 := (q2.below HBR.out hB).2
   have c3 := (q3.below HBR.out hB).2
   have HLPX : Hid (IsIntsX (fun q => X q ∧ q ≠ w.heap.size + 1 ∧ q ≠ w.heap.size + 1 + 1) wr (.slice ap (lotAt f.lots n).perm.length cp) (lotAt f.lots n).perm) := Lib.hid ((hlp.below HBR.out hB).kind (Nat.le_trans hB HBR.out.size) (fun q hq => ⟨HXB.out q hq, by omega, by omega⟩))
   obtain ⟨m, hm⟩ : ∃ m, f.lots.length - n = m + 1 := ⟨f.lots.length - n - 1, by omega⟩
   have em : f.lots.length - (m + 1) = n := by omega
   have em2 : f.lots.length - (n + 1) = m := by omega
   have hsm : settleM f (m + 1) W' part' = if (lotAt f.lots n).known then settleM f m (W' ++ [(lotAt f.lots n).perm]) [] else if part'.length < (lotAt f.lots n).ins.length then (W', part') else settleM f m (W' ++ [part']) [] := by
    simp only [settleM, em]
   rw [hm, hsm] at HSE
   have HEM := Lib.hid em2
   cases hkn : (lotAt f.lots n).known
   ·rw [hkn] at c2 HSE
    by_cases hpl : part'.length < (lotAt f.lots n).ins.length
    ·have hpl' : decide ((part'.length : Int) < ((lotAt f.lots n).ins.length : Int)) = true := decide_eq_true (by omega)
     have hpl2 : decide (part'.length < (lotAt f.lots n).ins.length) = true := decide_eq_true hpl
     have HSS : Hid ((W', part') = S) := Lib.hid (by have h := HSE.out; rw [if_neg (by decide), if_pos hpl] at h; exact h)
     have f0 := HC2.out.free 0
     have f1 := HC2.out.free 1
     have k0 := HC2.out.cell 0
     have k1 := HC2.out.cell 1
     simp at k0 k1
     have HU := Lib.hid (((HC2.out.set 0 (.slice aw' n cw')).set 1 (.slice ap' part'.length cp')).alloc (.cells #[.slice ai (lotAt f.lots n).ins.length ci, .bool false, .slice ap (lotAt f.lots n).perm.length cp] 54))
     have u0 := HU.out.cell 0
     have u1 := HU.out.cell 1
     simp at u0 u1
     have HWE := Lib.hid (((HWX.out.setCell (a := ⟨w.heap.size + 1 + 1, 0, none⟩) (by simp) (.slice aw' n cw')).setCell (a := ⟨w.heap.size + 1 + 1, 1, none⟩) (by simp) (.slice ap' part'.length cp')).below (box_below' _ (.cells #[.slice ai (lotAt f.lots n).ins.length ci, .bool false, .slice ap (lotAt f.lots n).perm.length cp] 54)))
     have HPE := Lib.hid (((HPX.out.setCellX (a := ⟨w.heap.size + 1 + 1, 0, none⟩) (by simp) (.slice aw' n cw')).setCellX (a := ⟨w.heap.size + 1 + 1, 1, none⟩) (by simp) (.slice ap' part'.length cp')).belowX (box_below' _ (.cells #[.slice ai (lotAt f.lots n).ins.length ci, .bool false, .slice ap (lotAt f.lots n).perm.length cp] 54)))
     have HBE := Lib.hid (((HBR.out.setCell (p := ⟨w.heap.size + 1 + 1, 0, none⟩) (by show w.heap.size ≤ w.heap.size + 1 + 1; omega) (.slice aw' n cw')).setCell (p := ⟨w.heap.size + 1 + 1, 1, none⟩) (by show w.heap.size ≤ w.heap.size + 1 + 1; omega) (.slice ap' part'.length cp')).alloc (by simpa using HBR.out.size) (.cells #[.slice ai (lotAt f.lots n).ins.length ci, .bool false, .slice ap (lotAt f.lots n).perm.length cp] 54))
     clear hpl hkn q1 q2 q3 hli hlp hsm em em2 hm
     go_wp2
     exact bodyPost_ret (v := .agg #[.slice aw' n cw', .slice ap' part'.length cp']) (by simp [results, Try.results66, go_sem, u0, u1]) rfl ⟨_, _, rfl, by rw [← HSS.out]; exact HWE.out.old (fun q hq _ => hq.1), by rw [← HSS.out]; exact HPE.out.old (fun q hq _ => hq.1), HBE.out⟩
    ·have hpl' : decide ((part'.length : Int) < ((lotAt f.lots n).ins.length : Int)) = false := decide_eq_false (by omega)
     have hpl2 : decide (part'.length < (lotAt f.lots n).ins.length) = false := decide_eq_false hpl
     have HSS : Hid (settleM f m (W' ++ [part']) [] = S) := Lib.hid (by have h := HSE.out; rw [if_neg (by decide), if_neg hpl] at h; exact h)
     clear hpl hkn q1 q2 q3 hli hlp hsm em em2 hm
     have HW2 := Lib.hid (HWX.out.below (box_below' wr (.cells #[.slice ai (lotAt f.lots n).ins.length ci, .bool false, .slice ap (lotAt f.lots n).perm.length cp] 54)))
     have HP2 := Lib.hid (HPX.out.belowX (box_below' wr (.cells #[.slice ai (lotAt f.lots n).ins.length ci, .bool false, .slice ap (lotAt f.lots n).perm.length cp] 54)))
     have HCN := Lib.hid (HCS.out.alloc (.cells #[.slice ai (lotAt f.lots n).ins.length ci, .bool false, .slice ap (lotAt f.lots n).perm.length cp] 54))
     have HC2N := Lib.hid (HC2.out.alloc (.cells #[.slice ai (lotAt f.lots n).ins.length ci, .bool false, .slice ap (lotAt f.lots n).perm.length cp] 54))
     have HBXN := Lib.hid (HBX.out.alloc (.cells #[.slice ai (lotAt f.lots n).ins.length ci, .bool false, .slice ap (lotAt f.lots n).perm.length cp] 54))
     have HBRN := Lib.hid (HBR.out.alloc HBR.out.size (.cells #[.slice ai (lotAt f.lots n).ins.length ci, .bool false, .slice ap (lotAt f.lots n).perm.length cp] 54))
     go_wp2_with fail
     refine (with29X_any (fun q => X q ∧ q ≠ w.heap.size + 1 ∧ q ≠ w.heap.size + 1 + 1) _ _ _ W' part' HW2.out HP2.out (fun q hq => ⟨HXN.out q (Nat.le_trans HBRN.out.size hq), by have := HCN.out.lt; omega, by have := HC2N.out.lt; omega⟩) (by have := HN.out; omega)).mono ?_
     rintro e w5 ⟨v5, rfl, hm5, hb5⟩
     obtain ⟨a5, n5, c5, rfl⟩ : ∃ a n c, v5 = .slice a n c := by obtain ⟨a, c, e⟩ := hm5.form; exact ⟨_, _, _, e⟩
     have HM5 := Lib.hid hm5
     have HCS5 := HCN.out.ext hb5
     have HC5 := Lib.hid HCS5
     have HC25 := Lib.hid (HC2N.out.ext hb5)
     have HBX5 := Lib.hid (HBXN.out.ext hb5)
     have HBR5 : Hid (Below w.heap.size w w5) := Lib.hid (HBRN.out.trans (hb5.mono HBRN.out.size))
     clear m0 m1 g0 g1
     have m0 := HCS5.cell 0
     have m1 := HCS5.cell 1
     have g0 := HCS5.free 0
     have g1 := HCS5.free 1
     simp at m0 m1
     clear hm5 hb5 HCS5
     go_wp2
     go_roundw
     case rel =>
      refine ⟨W' ++ [part'], [], .slice a5 n5 c5, .slice none 0 0, by have := HN.out; simp; omega, by rw [show f.lots.length - (W' ++ [part']).length = m by have := HN.out; have := HEM.out; simp; omega]; exact HSS.out, by simpa using (HC5.out.set 0 (.slice a5 n5 c5)).set 1 (.slice none 0 0), (HC25.out.grown (grown_setCell _ ⟨w.heap.size + 1, 0, none⟩ _) (by simp)).grown (grown_setCell _ ⟨w.heap.size + 1, 1, none⟩ _) (by simp), (HM5.out.setCell (a := ⟨w.heap.size + 1, 0, none⟩) (by simp) _).setCell (a := ⟨w.heap.size + 1, 1, none⟩) (by simp) _, IsIntsX.nil _ _, (HBX5.out.grown (grown_setCell _ ⟨w.heap.size + 1, 0, none⟩ _) (by simp)).grown (grown_setCell _ ⟨w.heap.size + 1, 1, none⟩ _) (by simp), (HBR5.out.setCell (p := ⟨w.heap.size + 1, 0, none⟩) (by show w.heap.size ≤ w.heap.size + 1; omega) _).setCell (p := ⟨w.heap.size + 1, 1, none⟩) (by show w.heap.size ≤ w.heap.size + 1; omega) _⟩
     case measure =>
      have hx := ((HC5.out.set 0 (.slice a5 n5 c5)).set 1 (.slice none 0 0)).cell 0
      have hn5 : n5 = n + 1 := by
       obtain ⟨a, c, e⟩ := HM5.out.form
       have := HN.out
       simp at e
       omega
      simp at hx
      rw [stLeft_at hx, HST.out, hn5]
      omega
   ·rw [hkn] at c2 HSE
    have HSS : Hid (settleM f m (W' ++ [(lotAt f.lots n).perm]) [] = S) := Lib.hid (by have h := HSE.out; rw [if_pos rfl] at h; exact h)
    clear hkn q1 q2 q3 hli hlp hsm em em2 hm
    have HW2 := Lib.hid ((HWX.out.setCell (a := ⟨w.heap.size + 1, 1, none⟩) (by simp) (.slice ap (lotAt f.lots n).perm.length cp)).below (box_below' _ (.cells #[.slice ai (lotAt f.lots n).ins.length ci, .bool true, .slice ap (lotAt f.lots n).perm.length cp] 54)))
    have HP2 := Lib.hid ((HLPX.out.setCellX (a := ⟨w.heap.size + 1, 1, none⟩) (by simp) (.slice ap (lotAt f.lots n).perm.length cp)).belowX (box_below' _ (.cells #[.slice ai (lotAt f.lots n).ins.length ci, .bool true, .slice ap (lotAt f.lots n).perm.length cp] 54)))
    have HCN := Lib.hid ((HCS.out.set 1 (.slice ap (lotAt f.lots n).perm.length cp)).alloc (.cells #[.slice ai (lotAt f.lots n).ins.length ci, .bool true, .slice ap (lotAt f.lots n).perm.length cp] 54))
    have HC2N := Lib.hid ((HC2.out.grown (grown_setCell _ ⟨w.heap.size + 1, 1, none⟩ (.slice ap (lotAt f.lots n).perm.length cp)) (by simp)).alloc (.cells #[.slice ai (lotAt f.lots n).ins.length ci, .bool true, .slice ap (lotAt f.lots n).perm.length cp] 54))
    have HBXN := Lib.hid ((HBX.out.grown (grown_setCell _ ⟨w.heap.size + 1, 1, none⟩ (.slice ap (lotAt f.lots n).perm.length cp)) (by simp)).alloc (.cells #[.slice ai (lotAt f.lots n).ins.length ci, .bool true, .slice ap (lotAt f.lots n).perm.length cp] 54))
    have HBRN := Lib.hid ((HBR.out.setCell (p := ⟨w.heap.size + 1, 1, none⟩) (by show w.heap.size ≤ w.heap.size + 1; omega) (.slice ap (lotAt f.lots n).perm.length cp)).alloc (by simpa using HBR.out.size) (.cells #[.slice ai (lotAt f.lots n).ins.length ci, .bool true, .slice ap (lotAt f.lots n).perm.length cp] 54))
    go_wp2_with fail
    refine (with29X_any (fun q => X q ∧ q ≠ w.heap.size + 1 ∧ q ≠ w.heap.size + 1 + 1) _ _ _ W' (lotAt f.lots n).perm HW2.out HP2.out (fun q hq => ⟨HXN.out q (Nat.le_trans HBRN.out.size hq), by have := HCN.out.lt; omega, by have := HC2N.out.lt; omega⟩) (by have := HN.out; omega)).mono ?_
    rintro e w5 ⟨v5, rfl, hm5, hb5⟩
    obtain ⟨a5, n5, c5, rfl⟩ : ∃ a n c, v5 = .slice a n c := by obtain ⟨a, c, e⟩ := hm5.form; exact ⟨_, _, _, e⟩
    have HM5 := Lib.hid hm5
    have HCS5 := HCN.out.ext hb5
    have HC5 := Lib.hid HCS5
    have HC25 := Lib.hid (HC2N.out.ext hb5)
    have HBX5 := Lib.hid (HBXN.out.ext hb5)
    have HBR5 : Hid (Below w.heap.size w w5) := Lib.hid (HBRN.out.trans (hb5.mono HBRN.out.size))
    clear m0 m1 g0 g1
    have m0 := HCS5.cell 0
    have m1 := HCS5.cell 1
    have g0 := HCS5.free 0
    have g1 := HCS5.free 1
    simp at m0 m1
    clear hm5 hb5 HCS5
    go_wp2
    go_roundw
    case rel =>
     refine ⟨W' ++ [(lotAt f.lots n).perm], [], .slice a5 n5 c5, .slice none 0 0, by have := HN.out; simp; omega, by rw [show f.lots.length - (W' ++ [(lotAt f.lots n).perm]).length = m by have := HN.out; have := HEM.out; simp; omega]; exact HSS.out, by simpa using (HC5.out.set 0 (.slice a5 n5 c5)).set 1 (.slice none 0 0), (HC25.out.grown (grown_setCell _ ⟨w.heap.size + 1, 0, none⟩ _) (by simp)).grown (grown_setCell _ ⟨w.heap.size + 1, 1, none⟩ _) (by simp), (HM5.out.setCell (a := ⟨w.heap.size + 1, 0, none⟩) (by simp) _).setCell (a := ⟨w.heap.size + 1, 1, none⟩) (by simp) _, IsIntsX.nil _ _, (HBX5.out.grown (grown_setCell _ ⟨w.heap.size + 1, 0, none⟩ _) (by simp)).grown (grown_setCell _ ⟨w.heap.size + 1, 1, none⟩ _) (by simp), (HBR5.out.setCell (p := ⟨w.heap.size + 1, 0, none⟩) (by show w.heap.size ≤ w.heap.size + 1; omega) _).setCell (p := ⟨w.heap.size + 1, 1, none⟩) (by show w.heap.size ≤ w.heap.size + 1; omega) _⟩
    case measure =>
     have hx := ((HC5.out.set 0 (.slice a5 n5 c5)).set 1 (.slice none 0 0)).cell 0
     have hn5 : n5 = n + 1 := by
      obtain ⟨a, c, e⟩ := HM5.out.form
      have := HN.out
      simp at e
      omega
     simp at hx
     rw [stLeft_at hx, HST.out, hn5]
     omega
  ·have he : W'.length = f.lots.length := by omega
   have HSS : Hid ((W', part') = S) := Lib.hid (by have h := HSE.out; rw [show f.lots.length - W'.length = 0 by omega] at h; exact h)
   obtain ⟨n, hn⟩ : ∃ n, W'.length = n := ⟨_, rfl⟩
   have hlt' : decide ((n : Int) < (f.lots.length : Int)) = false := decide_eq_false (by omega)
   have hlt2 : decide (n < f.lots.length) = false := decide_eq_false (by omega)
   rw [hn] at m0 HCS HWX
   have f0 := HC2.out.free 0
   have f1 := HC2.out.free 1
   have k0 := HC2.out.cell 0
   have k1 := HC2.out.cell 1
   simp at k0 k1
   have HU := Lib.hid ((HC2.out.set 0 (.slice aw' n cw')).set 1 (.slice ap' part'.length cp'))
   have u0 := HU.out.cell 0
   have u1 := HU.out.cell 1
   simp at u0 u1
   have HWE := Lib.hid ((HWX.out.setCell (a := ⟨w.heap.size + 1 + 1, 0, none⟩) (by simp) (.slice aw' n cw')).setCell (a := ⟨w.heap.size + 1 + 1, 1, none⟩) (by simp) (.slice ap' part'.length cp'))
   have HPE := Lib.hid ((HPX.out.setCellX (a := ⟨w.heap.size + 1 + 1, 0, none⟩) (by simp) (.slice aw' n cw')).setCellX (a := ⟨w.heap.size + 1 + 1, 1, none⟩) (by simp) (.slice ap' part'.length cp'))
   have HBE := Lib.hid ((HBR.out.setCell (p := ⟨w.heap.size + 1 + 1, 0, none⟩) (by show w.heap.size ≤ w.heap.size + 1 + 1; omega) (.slice aw' n cw')).setCell (p := ⟨w.heap.size + 1 + 1, 1, none⟩) (by show w.heap.size ≤ w.heap.size + 1 + 1; omega) (.slice ap' part'.length cp'))
   clear he hn hlt
   go_wp2
   exact bodyPost_ret (v := .agg #[.slice aw' n cw', .slice ap' part'.length cp']) (by simp [results, Try.results66, go_sem, u0, u1]) rfl ⟨_, _, rfl, by rw [← HSS.out]; exact HWE.out.old (fun q hq _ => hq.1), by rw [← HSS.out]; exact HPE.out.old (fun q hq _ => hq.1), HBE.out⟩
end Go.Proofs.Yteiaeaciaglmgaa
set_option linter.unusedVariables false
set_option linter.unusedSimpArgs false
namespace Go.Proofs.Yteiaeaciaglmgaa
open Go.RowKit
structure DecR (C c4 : Nat) (w0 w1 : World) (vW : Value) (part : List Int) (p : Int) (f2 f5 f7 f8 f10 : Bool) (x2 x5 x7 x8 : Value) (w : World) : Prop where
 hb : Below C w0 w
 hC : C ≤ c4 ∧ c4 < w1.heap.size
 sz : w1.heap.size ≤ w.heap.size
 ho : ∀ k, k < w1.heap.size → k ≠ c4 → w.heap[k]? = w1.heap[k]?
 h2 : f2 = true → f5 = false → OwnInts w1.heap.size w x2 []
 h5 : f5 = true → f8 = false → OwnInts w1.heap.size w x5 part
 h7 : f7 = true → f8 = false → ∃ q, x7 = .slice (some ⟨q, 0, none⟩) 1 1 ∧ w1.heap.size ≤ q ∧ CellsN w q #[.int .i64 p] ∧ (f2 = true → f5 = false → x2.ownBlock ≠ some q) ∧ (f5 = true → x5.ownBlock ≠ some q)
 h8 : f8 = true → OwnInts w1.heap.size w x8 (part ++ [p])
 c5 : f5 = true → f2 = true
 c8 : f8 = true → f5 = true ∧ f7 = true
 c10 : f10 = true → f8 = true
 hc : f10 = false → CellsN w c4 #[.slice none 0 0, .slice none 0 0]
 he : f10 = true → CellsN w c4 #[vW, x8]
theorem OwnInts.ltX {B : Nat} {w : World} {v : Value} {xs : List Int} (h : OwnInts B w v xs) : ∀ k, v.ownBlock = some k → B ≤ k ∧ k < w.heap.size := h.1.lt
section
variable {C c4 : Nat} {w0 w1 : World} {vW : Value} {part : List Int} {p : Int} {f2 f5 f7 f8 f10 : Bool} {x2 x5 x7 x8 : Value} {w : World}
theorem DecR.start (hb : Below C w0 w1) (hC : C ≤ c4) (hc : CellsN w1 c4 #[.slice none 0 0, .slice none 0 0]) (n : Nat) : DecR C c4 w0 w1 vW part p false false false false false x2 x5 x7 x8 (w1.drewN n) :=
 {
  hb := hb.trans (below_drewN (Below.refl _ _) n), hC := ⟨hC, hc.lt⟩, sz := Nat.le_refl _, ho := (fun k _ _ => rfl), h2 := (fun h => by cases h), h5 := (fun h => by cases h), h7 := (fun h => by cases h), h8 := (fun h => by cases h),
  c5 := (fun h => by cases h), c8 := (fun h => by cases h), c10 := (fun h => by cases h), hc := (fun _ => hc), he := (fun h => by cases h) }
variable (h : DecR C c4 w0 w1 vW part p f2 f5 f7 f8 f10 x2 x5 x7 x8 w)
include h
theorem DecR.n5 (e : f2 = false) : f5 = false := by
 cases e5 : f5 with
 | false => rfl
 | true => have := h.c5 e5; rw [e] at this; cases this
theorem DecR.n8 (e : f5 = false ∨ f7 = false) : f8 = false := by
 cases e5 : f8 with
 | false => rfl
 | true => have := h.c8 e5; rcases e with e | e <;> simp [e] at this
theorem DecR.n10 (e : f8 = false) : f10 = false := by
 cases e5 : f10 with
 | false => rfl
 | true => have := h.c10 e5; rw [e] at this; cases this
theorem DecR.s2 (hi : f2 = false) {x : Value} (he : x = .slice (some ⟨w.heap.size, 0, none⟩) 0 0) : DecR C c4 w0 w1 vW part p true f5 f7 f8 f10 x x5 x7 x8 (w.alloc (.cells #[] 3)) := by
 have e5 := h.n5 hi
 have e8 := h.n8 (.inl e5)
 have e10 := h.n10 e8
 subst e5 e8 e10
 have hz := h.sz
 have hCz := Nat.le_trans h.hC.1 (Nat.le_of_lt h.hC.2)
 exact {
  hb := h.hb.alloc (by omega) _, hC := h.hC, sz := (by simp; omega), ho := (fun k hk h1 => ((box_below' w (.cells #[] 3)).block k (by omega)).trans (h.ho k hk h1)),
  h2 := (fun _ _ => by rw [he]; exact OwnInts.made hz), h5 := (fun e => by cases e),
  h7 := (fun e e' => by
   obtain ⟨q, a1, a2, a3, a4, a5⟩ := h.h7 e e'
   exact ⟨q, a1, a2, a3.alloc _, (fun _ _ e2 => by rw [he] at e2; have := a3.lt; simp [Value.ownBlock] at e2; omega), a5⟩),
  h8 := (fun e => by cases e), c5 := (fun e => by cases e), c8 := (fun e => by cases e), c10 := (fun e => by cases e), hc := (fun _ => (h.hc rfl).alloc _), he := (fun e => by cases e) }
theorem DecR.s7 (hi : f7 = false) {x : Value} (he : x = .slice (some ⟨w.heap.size, 0, none⟩) 1 1) : DecR C c4 w0 w1 vW part p f2 f5 true f8 f10 x2 x5 x x8 (w.alloc (.cells #[.int .i64 p] 3)) := by
 have e8 := h.n8 (.inr hi)
 have e10 := h.n10 e8
 subst e8 e10
 have hz := h.sz
 have hCz := Nat.le_trans h.hC.1 (Nat.le_of_lt h.hC.2)
 exact {
  hb := h.hb.alloc (by omega) _, hC := h.hC, sz := (by simp; omega), ho := (fun k hk h1 => ((box_below' w (.cells #[.int .i64 p] 3)).block k (by omega)).trans (h.ho k hk h1)),
  h2 := (fun e e' => (h.h2 e e').alloc _), h5 := (fun e e' => (h.h5 e e').alloc _),
  h7 := (fun _ _ => ⟨_, he, hz, CellsN.new w _ _, (fun e e' e2 => by have := ((h.h2 e e').ltX _ e2).2; omega), (fun e e2 => by have := ((h.h5 e rfl).ltX _ e2).2; omega)⟩),
  h8 := (fun e => by cases e), c5 := h.c5, c8 := (fun e => by cases e), c10 := (fun e => by cases e), hc := (fun _ => (h.hc rfl).alloc _), he := (fun e => by cases e) }
theorem DecR.s5 (hi : f5 = false) (hf2 : f2 = true) {v' : Value} {w' : World} (ho : OwnInts w1.heap.size w' v' part) (hg : w.grownBy w' x2.ownBlock) (hat : v'.ownBlock = x2.ownBlock ∨ v'.ownBlock = some w.heap.size) : DecR C c4 w0 w1 vW part p f2 true f7 f8 f10 x2 v' x7 x8 w' := by
 have e8 := h.n8 (.inl hi)
 have e10 := h.n10 e8
 subst e8 e10 hi hf2
 have hz := h.sz
 have hCz := Nat.le_trans h.hC.1 (Nat.le_of_lt h.hC.2)
 have hl := (h.h2 rfl rfl).ltX
 exact {
  hb := h.hb.grown hg (by omega) (fun k hk => by have := (hl k hk).1; omega), hC := h.hC, sz := Nat.le_trans hz hg.size, ho := (fun k hk h1 => (hg.block k (by omega) (fun e => by have := (hl k e.symm).1; omega)).trans (h.ho k hk h1)),
  h2 := (fun _ e => by cases e), h5 := (fun _ _ => ho),
  h7 := (fun e _ => by
   obtain ⟨q, a1, a2, a3, a4, a5⟩ := h.h7 e rfl
   refine ⟨q, a1, a2, a3.grown hg (fun e2 => a4 rfl rfl e2.symm), (fun _ e2 => by cases e2), (fun _ e2 => ?_)⟩
   rcases hat with e3 | e3
   ·rw [e3] at e2; exact a4 rfl rfl e2
   ·rw [e3] at e2; have := a3.lt; simp at e2; omega),
  h8 := (fun e => by cases e), c5 := (fun _ => rfl), c8 := (fun e => by cases e), c10 := (fun e => by cases e), hc := (fun _ => (h.hc rfl).grown hg (fun e => by have := (hl _ e.symm).1; have := h.hC.2; omega)), he := (fun e => by cases e) }
theorem DecR.s8 (hi : f8 = false) (hf5 : f5 = true) (hf7 : f7 = true) {v' : Value} {w' : World} (ho : OwnInts w1.heap.size w' v' (part ++ [p])) (hg : w.grownBy w' x5.ownBlock) : DecR C c4 w0 w1 vW part p f2 f5 f7 true f10 x2 x5 x7 v' w' := by
 have e10 := h.n10 hi
 subst e10 hi hf5 hf7
 have hz := h.sz
 have hCz := Nat.le_trans h.hC.1 (Nat.le_of_lt h.hC.2)
 have hl := (h.h5 rfl rfl).ltX
 exact {
  hb := h.hb.grown hg (by omega) (fun k hk => by have := (hl k hk).1; omega), hC := h.hC, sz := Nat.le_trans hz hg.size, ho := (fun k hk h1 => (hg.block k (by omega) (fun e => by have := (hl k e.symm).1; omega)).trans (h.ho k hk h1)),
  h2 := (fun _ e => by cases e), h5 := (fun _ e => by cases e), h7 := (fun _ e => by cases e),
  h8 := (fun _ => ho), c5 := h.c5, c8 := (fun _ => ⟨rfl, rfl⟩), c10 := (fun e => by cases e), hc := (fun _ => (h.hc rfl).grown hg (fun e => by have := (hl _ e.symm).1; have := h.hC.2; omega)), he := (fun e => by cases e) }
theorem DecR.s10 (hi : f10 = false) (hf8 : f8 = true) : DecR C c4 w0 w1 vW part p f2 f5 f7 f8 true x2 x5 x7 x8 ((w.setCell ⟨c4, 0, none⟩ vW).setCell ⟨c4, 1, none⟩ x8) := by
 subst hi hf8
 obtain ⟨e5, e7⟩ := h.c8 rfl
 subst e5 e7
 have hz := h.sz
 have hg := grown_trans (grown_setCell w ⟨c4, 0, none⟩ vW) (grown_setCell _ ⟨c4, 1, none⟩ x8)
 have hne : x8.ownBlock = none ∨ x8.ownBlock ≠ some c4 := .inr fun e => by have := ((h.h8 rfl).ltX _ e).1; have := h.hC.2; omega
 exact {
  hb := (h.hb.setCell (p := ⟨c4, 0, none⟩) h.hC.1 _).setCell (p := ⟨c4, 1, none⟩) h.hC.1 _, hC := h.hC, sz := Nat.le_trans hz hg.size, ho := (fun k hk h1 => (hg.block k (by omega) (fun e => h1 (by simpa using e))).trans (h.ho k hk h1)),
  h2 := (fun _ e => by cases e), h5 := (fun _ e => by cases e), h7 := (fun _ e => by cases e),
  h8 := (fun _ => (h.h8 rfl).kept hg hne), c5 := h.c5, c8 := (fun _ => ⟨rfl, rfl⟩), c10 := (fun _ => rfl), hc := (fun e => by cases e), he := (fun _ => by simpa using ((h.hc rfl).set 0 vW).set 1 x8) }
/-- what other blocks hold -/
theorem DecR.cell {k i : Nat} (hk : k < w1.heap.size) (h1 : k ≠ c4) : w.cell? ⟨k, i, none⟩ = w1.cell? ⟨k, i, none⟩ := by
 simp only [World.cell?, h.ho k hk h1]
end
end Go.Proofs.Yteiaeaciaglmgaa
