/-
  Layer 18, plain: two offices change their places in the list of names.
-/
import Derived.Test.YtmfbabmejbppjaaOl5a
set_option linter.unusedVariables false
set_option linter.unusedSimpArgs false
namespace Go.Proofs.Ytmfbabmejbppjaa
open Go.RowKit

def movedI (i j : Nat) (q : Int) : Int := if q = i then j else if q = j then i else q
theorem movedI_inj {i j : Nat} {a b : Int} (h : movedI i j a = movedI i j b) : a = b := by
  unfold movedI at h
  split at h <;> split at h <;> (try split at h) <;> (try split at h) <;> omega
theorem movedI_range {i j m : Nat} (hi : i < m) (hj : j < m) (q : Int) : (0 ≤ movedI i j q ∧ movedI i j q < m) ↔ (0 ≤ q ∧ q < m) := by
  unfold movedI
  split
  · omega
  · split <;> omega
/-- the list whose places i and j are exchanged -/
def swapL (l : List Str) (i j : Nat) : List Str := (l.set i (strAt l j)).set j (strAt l i)
theorem swapL_len (l : List Str) (i j : Nat) : (swapL l i j).length = l.length := by unfold swapL; simp
theorem swapL_at {l : List Str} {i j k : Nat} (hi : i < l.length) (hj : j < l.length) (hk : k < l.length) : strAt (swapL l i j) k = if k = j then strAt l i else if k = i then strAt l j else strAt l k := by
  unfold swapL
  generalize strAt l i = u
  generalize hv : strAt l j = v
  unfold strAt
  rw [List.getD_eq_getElem?_getD, List.getElem?_set, List.getElem?_set, List.length_set]
  by_cases e : j = k
  · subst e; simp [hj]
  · have e' : ¬ k = j := fun h => e h.symm
    by_cases e2 : i = k
    · subst e2; simp [hi, e, e']
    · have e2' : ¬ k = i := fun h => e2 h.symm
      simp [e, e', e2, e2']
theorem idx_at {l : List Str} {s : Str} {k : Nat} (h : idxI l s = (k : Int)) : k < l.length ∧ strAt l k = s := by
  have h1 := (idxI_get h).1
  have h2 := (List.getElem?_eq_some_iff.1 h1).1
  exact ⟨h2, by rw [strAt_get h2]; exact (List.getElem?_eq_some_iff.1 h1).2⟩
theorem idx_of {l : List Str} {k : Nat} (hk : k < l.length) (hnd : l.Nodup) : idxI l (strAt l k) = (k : Int) := by
  rw [strAt_get hk]
  refine idxI_eq (List.getElem?_eq_getElem hk) (fun j hj h => ?_)
  rw [List.getElem?_eq_getElem (by omega)] at h
  have := (List.getElem_inj hnd).1 (Option.some.inj h)
  omega
theorem swapL_mem {l : List Str} {i j : Nat} (hi : i < l.length) (hj : j < l.length) (s : Str) : s ∈ swapL l i j ↔ s ∈ l := by
  constructor
  · intro h
    obtain ⟨k, hk, rfl⟩ := List.getElem_of_mem h
    have hk2 : k < l.length := by rw [← swapL_len l i j]; exact hk
    rw [← strAt_get hk, swapL_at hi hj hk2]
    split
    · rw [strAt_get hi]; exact List.getElem_mem hi
    · split
      · rw [strAt_get hj]; exact List.getElem_mem hj
      · rw [strAt_get hk2]; exact List.getElem_mem hk2
  · intro h
    obtain ⟨k, hk, rfl⟩ := List.getElem_of_mem h
    rw [← strAt_get hk]
    have key : ∀ q, q < l.length → strAt (swapL l i j) q = strAt l k → strAt l k ∈ swapL l i j := fun q hq e => by
      have hq2 : q < (swapL l i j).length := by rw [swapL_len]; exact hq
      rw [← e, strAt_get hq2]; exact List.getElem_mem hq2
    by_cases e1 : k = i
    · subst e1; exact key j hj (by rw [swapL_at hi hj hj, if_pos rfl])
    · by_cases e2 : k = j
      · subst e2
        refine key i hi ?_
        rw [swapL_at hi hj hi]
        by_cases e3 : i = k
        · rw [if_pos e3, e3]
        · rw [if_neg e3, if_pos rfl]
      · exact key k hk (by rw [swapL_at hi hj hk, if_neg e2, if_neg e1])
theorem swapL_nodup {l : List Str} {i j : Nat} (hi : i < l.length) (hj : j < l.length) : (swapL l i j).Nodup ↔ l.Nodup := by
  have one : ∀ {l : List Str} {i j : Nat}, i < l.length → j < l.length → l.Nodup → (swapL l i j).Nodup := by
    intro l i j hi hj hnd
    refine List.pairwise_iff_getElem.2 fun a b ha hb hab he => ?_
    have ha2 : a < l.length := by rw [← swapL_len l i j]; exact ha
    have hb2 : b < l.length := by rw [← swapL_len l i j]; exact hb
    rw [← strAt_get ha, ← strAt_get hb, swapL_at hi hj ha2, swapL_at hi hj hb2] at he
    have inj : ∀ {p q : Nat}, p < l.length → q < l.length → strAt l p = strAt l q → p = q := fun {p q} hp hq h => by
      rw [strAt_get hp, strAt_get hq] at h
      exact (List.getElem_inj hnd).1 h
    split at he <;> split at he <;> (try split at he) <;> (try split at he)
    all_goals (have := inj (by assumption) (by assumption) he; omega)
  refine ⟨fun h => ?_, one hi hj⟩
  have h2 := one (l := swapL l i j) (i := i) (j := j) (by rw [swapL_len]; exact hi) (by rw [swapL_len]; exact hj) h
  have e : swapL (swapL l i j) i j = l := by
    apply List.ext_getElem (by rw [swapL_len, swapL_len])
    intro k h1 h3
    rw [← strAt_get h1, ← strAt_get h3, swapL_at (by rw [swapL_len]; exact hi) (by rw [swapL_len]; exact hj) (by rw [swapL_len]; exact h3), swapL_at hi hj hi, swapL_at hi hj hj, swapL_at hi hj h3]
    by_cases e1 : k = j
    · subst e1
      rw [if_pos rfl]
      by_cases e2 : i = k
      · subst e2; rw [if_pos rfl]
      · rw [if_neg e2, if_pos rfl]
    · rw [if_neg e1]
      by_cases e2 : k = i
      · subst e2; rw [if_pos rfl, if_pos rfl]
      · rw [if_neg e2, if_neg e1, if_neg e2]
  rwa [e] at h2
theorem idx_swap {l : List Str} {i j : Nat} (hi : i < l.length) (hj : j < l.length) (hnd : l.Nodup) (s : Str) : idxI (swapL l i j) s = if idxI l s < 0 then -1 else movedI i j (idxI l s) := by
  have hnd2 := (swapL_nodup hi hj).2 hnd
  by_cases h : idxI l s < 0
  · rw [if_pos h]
    have h1 := idxI_none.1 h
    have h2 : idxI (swapL l i j) s < 0 := idxI_none.2 (fun hm => h1 ((swapL_mem hi hj s).1 hm))
    have := idxI_ge (swapL l i j) s
    omega
  · rw [if_neg h]
    obtain ⟨k, hk⟩ : ∃ k : Nat, idxI l s = (k : Int) := ⟨_, (Int.toNat_of_nonneg (by omega)).symm⟩
    obtain ⟨hkl, hks⟩ := idx_at hk
    rw [hk]
    have key : ∀ q : Nat, q < l.length → strAt (swapL l i j) q = s → idxI (swapL l i j) s = (q : Int) := fun q hq e => by
      rw [← e]
      exact idx_of (by rw [swapL_len]; exact hq) hnd2
    unfold movedI
    by_cases e1 : k = i
    · subst e1
      rw [if_pos rfl]
      exact key j hj (by rw [swapL_at hi hj hj, if_pos rfl]; exact hks)
    · rw [if_neg (by omega)]
      by_cases e2 : k = j
      · subst e2
        rw [if_pos rfl]
        refine key i hi ?_
        rw [swapL_at hi hj hi]
        by_cases e3 : i = k
        · rw [if_pos e3, e3]; exact hks
        · rw [if_neg e3, if_pos rfl]; exact hks
      · rw [if_neg (by omega)]
        exact key k hkl (by rw [swapL_at hi hj hkl, if_neg e2, if_neg e1]; exact hks)
def movedN (n : NamesD) (i j : Nat) : NamesD := ⟨swapL n.offices i j, n.people, n.classes, n.homes.map (movedI i j)⟩
theorem checkN_moved {n : NamesD} {i j : Nat} (hi : i < n.offices.length) (hj : j < n.offices.length) : checkN (movedN n i j) = checkN n := by
  have h1 : namesOk (swapL n.offices i j) = namesOk n.offices := by
    unfold namesOk
    have e1 : (swapL n.offices i j).all nameB = n.offices.all nameB := by
      rw [Bool.eq_iff_iff, List.all_eq_true, List.all_eq_true]
      exact ⟨fun h s hs => h s ((swapL_mem hi hj s).2 hs), fun h s hs => h s ((swapL_mem hi hj s).1 hs)⟩
    have e2 : decide (swapL n.offices i j).Nodup = decide n.offices.Nodup := by
      rw [decide_eq_decide]; exact swapL_nodup hi hj
    rw [e1, e2]
  have h2 : (n.homes.map (movedI i j)).all (fun h => decide (0 ≤ h) && decide (h < n.offices.length)) = n.homes.all (fun h => decide (0 ≤ h) && decide (h < n.offices.length)) := by
    rw [List.all_map]
    congr 1
    funext h
    have := movedI_range hi hj h
    simp only [Function.comp]
    rw [Bool.eq_iff_iff]
    simpa using this
  unfold checkN movedN
  simp only [swapL_len, h1, h2, List.length_map]
end Go.Proofs.Ytmfbabmejbppjaa
