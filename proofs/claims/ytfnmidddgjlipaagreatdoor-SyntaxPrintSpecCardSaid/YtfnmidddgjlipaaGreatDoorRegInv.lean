/-
  A region whose order is drawn, by an invariant over what has been done: one step for each operation, whatever came before it.
-/
import Derived.WalkKit
import Derived.Deep.RegionHeld
import Derived.Test.YtfnmidddgjlipaaGreatDoorProg
set_option linter.unusedVariables false
set_option linter.unusedSimpArgs false
namespace Go.Proofs.YtfnmidddgjlipaaGreatDoor
open Go.RowKit

/-- done: the set of the operations that have come up -/
def upd (L : Nat → Bool) (i : Nat) : Nat → Bool := fun j => j == i || L j
def allOn (L : Nat → Bool) : List Nat → Prop
  | [] => True
  | d :: r => L d = true ∧ allOn L r
theorem allOn_mem {L : Nat → Bool} : ∀ {l : List Nat}, (∀ d ∈ l, L d = true) → allOn L l
  | [], _ => trivial
  | d :: r, h => ⟨h d (by simp), allOn_mem fun e he => h e (by simp [he])⟩
/-- the operations that must come ahead of an operation -/
def depsOf (o : Oper) : List Nat := (o.after.toList.filter (Region.binds .any)).map (·.on)
/-- all edges point to an earlier operation -/
def backB : Nat → List Oper → Bool
  | _, [] => true
  | k, o :: r => (depsOf o).all (fun d => decide (d < k)) && backB (k + 1) r
theorem backB_at : ∀ {l : List Oper} {k : Nat}, backB k l = true → ∀ {i : Nat} {o : Oper}, l[i]? = some o → ∀ d ∈ depsOf o, d < k + i
  | [], _, _, i, o, ho, _, _ => by simp at ho
  | o' :: r, k, h, 0, o, ho, d, hd => by
    simp only [backB, Bool.and_eq_true, List.all_eq_true, decide_eq_true_eq] at h
    simp at ho
    subst ho
    simpa using h.1 d hd
  | o' :: r, k, h, i + 1, o, ho, d, hd => by
    simp only [backB, Bool.and_eq_true] at h
    have := backB_at h.2 (i := i) (o := o) (by simpa using ho) d hd
    omega

section
variable {P : Program} {ops : Array Oper} {Q : Exit → Act → World → Prop}

def InvStep (P : Program) (ops : Array Oper) (Q : Exit → Act → World → Prop) (I : (Nat → Bool) → Act → World → Prop) (i : Nat) (o : Oper) : Prop :=
  ∀ (L : Nat → Bool) (a : Act) (w : World), L i = false → allOn L (depsOf o) → I L a w →
    ∀ K : Act → World → Prop, Shut (∀ a' w', I (upd L i) a' w' → K a' w') → if Region.wanted o (yielded ops a.tmps) = true then Oper.wp P o a w K Q else K (a.put o.dst undef) w
def InvSteps (P : Program) (ops : Array Oper) (Q : Exit → Act → World → Prop) (I : (Nat → Bool) → Act → World → Prop) : Nat → List Oper → Prop
  | _, [] => True
  | k, o :: r => InvStep P ops Q I k o ∧ InvSteps P ops Q I (k + 1) r
theorem InvSteps.at {I : (Nat → Bool) → Act → World → Prop} : ∀ {l : List Oper} {k : Nat}, InvSteps P ops Q I k l → ∀ {i : Nat} {o : Oper}, l[i]? = some o → InvStep P ops Q I (k + i) o
  | [], _, _, i, o, ho => by simp at ho
  | o' :: r, k, h, 0, o, ho => by
    simp at ho
    subst ho
    exact h.1
  | o' :: r, k, h, i + 1, o, ho => by
    have := InvSteps.at h.2 (i := i) (o := o) (by simpa using ho)
    rw [show k + (i + 1) = k + 1 + i by omega]
    exact this

theorem upd_listed {listed : Array Bool} {i : Nat} (hi : i < listed.size) : (fun j => (listed.setIfInBounds i true).getD j false) = upd (fun j => listed.getD j false) i := by
  funext j
  unfold upd
  by_cases h : j = i
  · subst h
    simp [Array.getD_eq_getD_getElem?, hi]
  · have h' : ¬ i = j := fun e => h e.symm
    simp [Array.getD_eq_getD_getElem?, Array.getElem?_setIfInBounds_ne h', h]

/-- how many are not yet done -/
def leftN (L : Nat → Bool) : Nat → Nat
  | 0 => 0
  | n + 1 => leftN L n + (if L n = true then 0 else 1)
theorem leftN_upd_ge {L : Nat → Bool} {i : Nat} : ∀ n, n ≤ i → leftN (upd L i) n = leftN L n
  | 0, _ => rfl
  | n + 1, h => by
    have hn : (n == i) = false := by simp; omega
    have ih := leftN_upd_ge (L := L) (i := i) n (by omega)
    simp [leftN, ih]
    simp [upd, hn]
theorem leftN_upd {L : Nat → Bool} {i : Nat} (hi : L i = false) : ∀ n, i < n → leftN (upd L i) n + 1 = leftN L n
  | 0, h => by omega
  | n + 1, h => by
    rcases Nat.lt_or_ge i n with h1 | h1
    · have hn : (n == i) = false := by simp; omega
      have ih := leftN_upd hi n h1
      simp [leftN, upd, hn] at *
      omega
    · obtain rfl : i = n := by omega
      simp [leftN, leftN_upd_ge i (Nat.le_refl _), upd, hi]
theorem leftN_zero {L : Nat → Bool} : ∀ n, leftN L n = 0 → ∀ i, i < n → L i = true
  | 0, _, i, h => by omega
  | n + 1, h, i, hi => by
    simp only [leftN] at h
    rcases Nat.lt_or_ge i n with h1 | h1
    · exact leftN_zero n (by omega) i h1
    · obtain rfl : i = n := by omega
      by_cases hh : L i = true
      · exact hh
      · simp [hh] at h

theorem wpAny_inv {l : List Oper} (hb : backB 0 l = true) {I : (Nat → Bool) → Act → World → Prop} (hs : InvSteps P l.toArray Q I 0 l)
    (he : ∀ (L : Nat → Bool) a w, (∀ i, i < l.length → L i = true) → I L a w → Q .normal a w) :
    ∀ (fuel : Nat) (listed : Array Bool) (a : Act) (w : World), listed.size = l.length → leftN (fun j => listed.getD j false) l.length ≤ fuel → I (fun j => listed.getD j false) a w →
      wpAny P .any l.toArray Q fuel listed a w := by
  have hfull : ∀ (listed : Array Bool), listed.size = l.length → Region.ready .any l.toArray listed = [] → ∀ n, n ≤ l.length → ∀ i, i < n → listed.getD i false = true := by
    intro listed hz hr n
    induction n with
    | zero => intro _ i hi; omega
    | succ n ih =>
      intro hn i hi
      rcases Nat.lt_or_ge i n with h1 | h1
      · exact ih (by omega) i h1
      · obtain rfl : i = n := by omega
        by_cases hh : listed.getD i false = true
        · exact hh
        · exfalso
          have hmem : i ∈ Region.ready .any l.toArray listed := by
            unfold Region.ready
            refine List.mem_filter.2 ⟨by simp; omega, ?_⟩
            have e1 : listed.getD i true = false := by
              have : i < listed.size := by omega
              simp [Array.getD_eq_getD_getElem?, this] at hh ⊢
              exact hh
            have hlt : i < l.length := by omega
            have e2 : l.toArray[i]? = some l[i] := by simp
            rw [e1, e2]
            simp only [Bool.not_false, Bool.true_and, Option.map_some, Option.getD_some]
            rw [Array.all_eq_true_iff_forall_mem]
            intro e hme
            by_cases hbd : Region.binds .any e = true
            · have : e.on ∈ depsOf l[i] := List.mem_map.2 ⟨e, List.mem_filter.2 ⟨by simpa using hme, hbd⟩, rfl⟩
              have h2 := backB_at hb (i := i) (o := l[i]) (by simp) _ this
              simp [ih (by omega) e.on (by omega)]
            · simp [hbd]
          rw [hr] at hmem
          cases hmem
  intro fuel
  induction fuel with
  | zero =>
    intro listed a w hz hl hI
    have hall := leftN_zero _ (Nat.le_zero.1 hl)
    refine ⟨?_, he _ a w hall hI⟩
    refine List.eq_nil_iff_forall_not_mem.2 fun i hi => ?_
    unfold Region.ready at hi
    obtain ⟨h1, h2⟩ := List.mem_filter.1 hi
    have hlt : i < l.length := by simpa using h1
    have h3 := hall i hlt
    have : i < listed.size := by omega
    simp [Array.getD_eq_getD_getElem?, this] at h3 h2
    rw [h3] at h2
    exact absurd h2.1 (by simp)
  | succ fuel ih =>
    intro listed a w hz hl hI
    refine ⟨fun hr => he _ a w (hfull listed hz hr l.length (Nat.le_refl _)) hI, fun i hi => ?_⟩
    have hi' := hi
    unfold Region.ready at hi'
    obtain ⟨h1, h2⟩ := List.mem_filter.1 hi'
    have hlt : i < l.length := by simpa using h1
    have hlz : i < listed.size := by omega
    have e2 : l.toArray[i]? = some l[i] := by simp
    rw [e2] at h2
    simp only [Option.map_some, Option.getD_some, Bool.and_eq_true] at h2
    have hL : listed.getD i false = false := by
      have := h2.1
      simp [Array.getD_eq_getD_getElem?, hlz] at this ⊢
      exact this
    have hdeps : allOn (fun j => listed.getD j false) (depsOf l[i]) := allOn_mem fun d hd => by
      obtain ⟨e, he1, rfl⟩ := List.mem_map.1 hd
      obtain ⟨he2, he3⟩ := List.mem_filter.1 he1
      have := (Array.all_eq_true_iff_forall_mem.1 h2.2) e (by simpa using he2)
      simpa [he3] using this
    have hstep := InvSteps.at hs (i := i) (o := l[i]) (by simp)
    rw [Nat.zero_add] at hstep
    refine wpOp_step e2 fun K' hK => ?_
    refine hstep _ a w hL hdeps hI K' ?_
    intro a' w' hI'
    refine hK a' w' (ih _ a' w' (by simp [hz]) ?_ ?_)
    · rw [upd_listed hlz]
      have := leftN_upd (L := fun j => listed.getD j false) hL l.length hlt
      omega
    · rw [upd_listed hlz]; exact hI'

/-- a region whose order is drawn, by an invariant -/
theorem wp_region_inv {id : Nat} {l : List Oper} {a : Act} {w : World} (I : Act → (Nat → Bool) → Act → World → Prop) (hm : P.follows .mixedOrders = true) (hb : backB 0 l = true)
    (h0 : I a (fun _ => false) a w.drew) (hs : InvSteps P l.toArray Q (I a) 0 l) (he : ∀ (L : Nat → Bool) a' w', (∀ i, i < l.length → L i = true) → I a L a' w' → Q .normal a' w') : (Code.region id l.toArray true).wp P Q a w := by
  refine wp_region_any hm ?_
  have hfun : (fun j => (Array.replicate l.toArray.size false).getD j false) = fun _ => false := by
    funext j
    simp [Array.getD_eq_getD_getElem?, Array.getElem?_replicate]
    by_cases h : j < l.length <;> simp [h]
  have hle : ∀ n, leftN (fun _ => false) n ≤ n := by
    intro n
    induction n with
    | zero => simp [leftN]
    | succ n ih => simp [leftN]; exact ih
  refine wpAny_inv hb hs he _ _ _ _ (by simp) ?_ ?_
  · rw [hfun]; simpa using hle l.length
  · rw [hfun]; exact h0
end
end Go.Proofs.YtfnmidddgjlipaaGreatDoor
