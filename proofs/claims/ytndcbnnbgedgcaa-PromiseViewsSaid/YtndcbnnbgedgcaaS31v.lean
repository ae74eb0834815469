/-
  Layers 25, 31, in plain Lean: who knows more sees no greater crowds.
-/
import Derived.Test.YtndcbnnbgedgcaaP31m
import Derived.Test.YtndcbnnbgedgcaaS31b
import Derived.Test.YtndcbnnbgedgcaaF26b
set_option linter.unusedVariables false
set_option linter.unusedSimpArgs false
namespace Go.Proofs.Ytndcbnnbgedgcaa

/-- a lot whose permutation is not seen -/
def hideLot (u : Bool) (d : Lot) : Lot := if u then ⟨d.ins, false, []⟩ else d
/-- does a list have an office outside a coalition? -/
def strB (l c : List Int) : Bool := anyB l (fun n => !hasB c n)
def viewTo (f : Flow) (lines : List (List Int)) (c : List Int) : Nat → List Lot
  | 0 => []
  | k + 1 => viewTo f lines c k ++ [hideLot (strB (rowAt lines k) c) (lotAt f.lots k)]
def viewF (f : Flow) (lines : List (List Int)) (c : List Int) : Flow := ⟨f.senders, viewTo f lines c f.lots.length⟩
theorem viewTo_len (f : Flow) (lines : List (List Int)) (c : List Int) : ∀ k, (viewTo f lines c k).length = k
  | 0 => rfl
  | k + 1 => by simp [viewTo, viewTo_len f lines c k]
theorem viewTo_at (f : Flow) (lines : List (List Int)) (c : List Int) : ∀ {k j : Nat}, j < k → lotAt (viewTo f lines c k) j = hideLot (strB (rowAt lines j) c) (lotAt f.lots j)
  | 0, _, h => by omega
  | k + 1, j, h => by
    simp only [viewTo]
    unfold lotAt
    rw [List.getD_eq_getElem?_getD]
    by_cases e : j < k
    · rw [List.getElem?_append_left (by rw [viewTo_len]; exact e), ← List.getD_eq_getElem?_getD]
      exact viewTo_at f lines c e
    · have : j = k := by omega
      subst this
      rw [List.getElem?_append_right (by rw [viewTo_len]; exact Nat.le_refl _)]
      simp [viewTo_len, lotAt]
theorem view_len (f : Flow) (lines : List (List Int)) (c : List Int) : (viewF f lines c).lots.length = f.lots.length := viewTo_len _ _ _ _
theorem view_at {f : Flow} {lines : List (List Int)} {c : List Int} {j : Nat} (h : j < f.lots.length) : lotAt (viewF f lines c).lots j = hideLot (strB (rowAt lines j) c) (lotAt f.lots j) := viewTo_at f lines c h
theorem hide_ins (u : Bool) (d : Lot) : (hideLot u d).ins = d.ins := by unfold hideLot; split <;> rfl
theorem beforeI_view (f : Flow) (lines : List (List Int)) (c : List Int) : ∀ k, k ≤ f.lots.length → beforeI (viewF f lines c) k = beforeI f k
  | 0, _ => rfl
  | k + 1, h => by simp only [beforeI, beforeI_view f lines c k (by omega), view_at (show k < f.lots.length by omega), hide_ins]
theorem goneB_view (f : Flow) (lines : List (List Int)) (c : List Int) (x : Int) : ∀ k, k ≤ f.lots.length → goneB (viewF f lines c) x k = goneB f x k
  | 0, _ => rfl
  | k + 1, h => by simp only [goneB, goneB_view f lines c x k (by omega), view_at (show k < f.lots.length by omega), hide_ins]
theorem lotB_view {f : Flow} {lines : List (List Int)} {c : List Int} {k : Nat} (hk : k < f.lots.length) (h : lotB f k = true) : lotB (viewF f lines c) k = true := by
  unfold lotB at *
  simp only [view_at hk, hide_ins, beforeI_view f lines c k (by omega), goneB_view f lines c _ k (by omega)]
  simp only [Bool.and_eq_true] at *
  refine ⟨h.1, ?_⟩
  unfold hideLot
  split
  · simp
  · exact h.2
theorem lotsB_view {f : Flow} {lines : List (List Int)} {c : List Int} : ∀ {k : Nat}, k ≤ f.lots.length → lotsB f k = true → lotsB (viewF f lines c) k = true
  | 0, _, _ => rfl
  | k + 1, hk, h => by
    simp only [lotsB, Bool.and_eq_true] at *
    exact ⟨lotsB_view (by omega) h.1, lotB_view (by omega) h.2⟩
theorem view_check {f : Flow} {lines : List (List Int)} {c : List Int} (h : checkE f = 0) : checkE (viewF f lines c) = 0 := by
  have hck := checkE_ok h
  have h5 := lotsB_view (lines := lines) (c := c) (Nat.le_refl _) hck.2.2.2.2
  unfold checkE
  rw [view_len, beforeI_view f lines c _ (Nat.le_refl _), h5]
  have e : (viewF f lines c).senders = f.senders := rfl
  rw [e, if_neg (by omega), if_neg (by omega)]
  rfl
theorem view_reachE {f : Flow} {lines : List (List Int)} {c : List Int} {s : Int} (h : checkE f = 0) : reachE (viewF f lines c) s = reachE f s := by
  unfold reachE
  rw [view_check h, h]
  rfl

theorem canTo_mono {d : Lot} {u1 u2 : Bool} (hu : u1 = true → u2 = true) {S T : List Int} (hS : ∀ y ∈ S, y ∈ T) {k : Nat} (h : canTo (hideLot u1 d) S k (hideLot u1 d).ins.length = true) : canTo (hideLot u2 d) T k (hideLot u2 d).ins.length = true := by
  rw [canTo_iff] at *
  obtain ⟨j, h1, h2, h3⟩ := h
  rw [hide_ins] at *
  refine ⟨j, h1, hS _ h2, fun hk => ?_⟩
  cases u2 with
  | true => simp [hideLot] at hk
  | false =>
    have : u1 = false := by cases u1; rfl; exact absurd (hu rfl) (by simp)
    subst this
    exact h3 hk
theorem spots_view_mono {f : Flow} {lines : List (List Int)} {c c' : List Int} (hu : ∀ k, k < f.lots.length → strB (rowAt lines k) c = true → strB (rowAt lines k) c' = true) (s : Int) : ∀ k, k ≤ f.lots.length → ∀ y ∈ spotsTo (viewF f lines c) s k, y ∈ spotsTo (viewF f lines c') s k
  | 0, _, y, hy => hy
  | k + 1, hk, y, hy => by
    have ih := spots_view_mono hu s k (by omega)
    have hk' : k < f.lots.length := by omega
    simp only [spotsTo, view_at hk', beforeI_view f lines _ k (by omega), hide_ins, follTo_mem] at *
    rcases hy with hy | ⟨i, h1, h2, h3⟩
    · exact Or.inl (ih y hy)
    · exact Or.inr ⟨i, h1, h2, by have := canTo_mono (hu k hk') ih (by rw [hide_ins]; exact h3); rw [hide_ins] at this; exact this⟩
theorem view_mono {f : Flow} {lines : List (List Int)} {c c' : List Int} (hu : ∀ k, k < f.lots.length → strB (rowAt lines k) c = true → strB (rowAt lines k) c' = true) (s : Int) : (reachL (viewF f lines c) s).length ≤ (reachL (viewF f lines c') s).length := by
  refine inj_len (fun y => y) _ _ (reachL_nodup _ _) (fun _ _ _ _ h => h) (fun y hy => ?_)
  rw [reachL_mem, view_len, beforeI_view f lines _ _ (Nat.le_refl _), goneB_view f lines _ _ _ (Nat.le_refl _)] at *
  exact ⟨hy.1, hy.2.1, hy.2.2.1, spots_view_mono hu s _ (Nat.le_refl _) y hy.2.2.2⟩
theorem outB_sub {l c c' : List Int} (h : ∀ x ∈ c', x ∈ c) (ho : strB l c = true) : strB l c' = true := by
  unfold strB anyB at *
  rw [List.any_eq_true] at *
  obtain ⟨x, hx, hp⟩ := ho
  refine ⟨x, hx, ?_⟩
  simp only [Bool.not_eq_true'] at *
  cases hh : hasB c' x
  · rfl
  · rw [hasB_iff.2 (h x (hasB_iff.1 hh))] at hp
    cases hp

theorem pre_succ {f : Flow} {k : Nat} (h : k < f.lots.length) : preF f (k + 1) = extF (preF f k) (lotAt f.lots k) := by
  unfold preF extF
  simp only
  rw [List.take_succ_eq_append_getElem h]
  unfold lotAt
  rw [List.getD_eq_getElem?_getD, List.getElem?_eq_getElem h]
  rfl
theorem crowd_known {f : Flow} {s : Int} (h : reachE f s = 0) (hk : ∀ d ∈ f.lots, d.known = true) : (reachR f s).length = 1 := by
  have hr := reachE_ok h
  have hck := checkE_ok hr.1
  have key : ∀ k, k ≤ f.lots.length → (reachL (preF f k) s).length ≤ 1 := by
    intro k
    induction k with
    | zero =>
      intro _
      refine inj_len (fun y => y) _ [s] (reachL_nodup _ _) (fun _ _ _ _ h => h) (fun y hy => ?_)
      rw [reachL_pre_mem (by omega)] at hy
      simpa [spotsTo] using hy.2.2.2
    | succ k ih =>
      intro hle
      refine Nat.le_trans ?_ (ih (by omega))
      have e := pre_succ (show k < f.lots.length by omega)
      have hl : lotsB (preF f (k + 1)) (k + 1) = true := by rw [lotsB_pre f (k + 1) (k + 1) (Nat.le_refl _)]; exact lotsB_le hck.2.2.2.2 hle
      rw [e] at hl ⊢
      refine ext_known (f := preF f k) hr.2.1 hr.2.2 ?_ (hk _ (lotAt_mem (by omega)))
      rw [pre_len (by omega)]
      exact hl
  have h1 := key _ (Nat.le_refl _)
  rw [pre_all] at h1
  have h2 := crowd_pos h
  have e1 : reachR f s = reachL f s := by unfold reachR; rw [if_pos h]
  rw [e1] at h2 ⊢
  omega
/-- what PromiseViews says of its numbers -/
theorem views_law {f : Flow} {lines : List (List Int)} {c c' : List Int} {s : Int} (h : reachE f s = 0) (hk : ∀ d ∈ f.lots, d.known = true) (hc : ∀ x ∈ c', x ∈ c) :
    (reachR f s).length = 1 ∧ 1 ≤ (reachR (viewF f lines c) s).length ∧ (reachR (viewF f lines c) s).length ≤ (reachR (viewF f lines c') s).length := by
  have hr := reachE_ok h
  have e1 : reachE (viewF f lines c) s = 0 := by rw [view_reachE hr.1]; exact h
  have e2 : reachE (viewF f lines c') s = 0 := by rw [view_reachE hr.1]; exact h
  refine ⟨crowd_known h hk, crowd_pos e1, ?_⟩
  unfold reachR
  rw [if_pos e1, if_pos e2]
  exact view_mono (fun k _ => outB_sub hc) s

end Go.Proofs.Ytndcbnnbgedgcaa
