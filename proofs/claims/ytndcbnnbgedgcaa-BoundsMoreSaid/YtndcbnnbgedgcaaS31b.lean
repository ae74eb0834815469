/-
  Layer 31, in plain Lean: a further lot.
-/
import Derived.Test.YtndcbnnbgedgcaaS31
set_option linter.unusedVariables false
set_option linter.unusedSimpArgs false
namespace Go.Proofs.Ytndcbnnbgedgcaa

/-- a flow with one lot more -/
def extF (f : Flow) (x : Lot) : Flow := ⟨f.senders, f.lots ++ [x]⟩
theorem ext_len (f : Flow) (x : Lot) : (extF f x).lots.length = f.lots.length + 1 := by simp [extF]
theorem ext_pre (f : Flow) (x : Lot) : preF (extF f x) f.lots.length = f := by
  obtain ⟨n, ls⟩ := f
  simp [preF, extF]
theorem ext_pre' (f : Flow) (x : Lot) : preF (extF f x) (f.lots.length + 1) = extF f x := by
  obtain ⟨n, ls⟩ := f
  simp only [preF, extF]
  rw [List.take_of_length_le (by simp)]
theorem ext_at (f : Flow) (x : Lot) : lotAt (extF f x).lots f.lots.length = x := by
  unfold lotAt extF
  rw [List.getD_eq_getElem?_getD]
  simp
theorem beforeI_ext (f : Flow) (x : Lot) {k : Nat} (hk : k ≤ f.lots.length) : beforeI (extF f x) k = beforeI f k := by
  have := beforeI_pre (extF f x) f.lots.length k hk
  rw [ext_pre] at this; exact this.symm
theorem goneB_ext (f : Flow) (x : Lot) (y : Int) {k : Nat} (hk : k ≤ f.lots.length) : goneB (extF f x) y k = goneB f y k := by
  have := goneB_pre (extF f x) f.lots.length y k hk
  rw [ext_pre] at this; exact this.symm
theorem lotsB_ext (f : Flow) (x : Lot) {k : Nat} (hk : k ≤ f.lots.length) : lotsB (extF f x) k = lotsB f k := by
  have := lotsB_pre (extF f x) f.lots.length k hk
  rw [ext_pre] at this; exact this.symm
theorem spotsTo_ext (f : Flow) (x : Lot) (s : Int) {k : Nat} (hk : k ≤ f.lots.length) : spotsTo (extF f x) s k = spotsTo f s k := by
  have := spotsTo_pre (extF f x) f.lots.length s k hk
  rw [ext_pre] at this; exact this.symm

/-- the ends of a flow with one lot more -/
theorem ext_mem (f : Flow) (x : Lot) (s y : Int) : y ∈ reachL (extF f x) s ↔ 0 ≤ y ∧ y < beforeI f f.lots.length + x.ins.length ∧ goneB f y f.lots.length = false ∧ y ∉ x.ins ∧
    (y ∈ spotsTo f s f.lots.length ∨ ∃ i : Nat, i < x.ins.length ∧ y = beforeI f f.lots.length + i ∧ canTo x (spotsTo f s f.lots.length) i x.ins.length = true) := by
  rw [reachL_mem, ext_len]
  have e1 : beforeI (extF f x) (f.lots.length + 1) = beforeI f f.lots.length + x.ins.length := by simp only [beforeI, ext_at, beforeI_ext f x (Nat.le_refl _)]
  have e2 : goneB (extF f x) y (f.lots.length + 1) = (goneB f y f.lots.length || hasB x.ins y) := by simp only [goneB, ext_at, goneB_ext f x y (Nat.le_refl _)]
  have e3 : spotsTo (extF f x) s (f.lots.length + 1) = follTo x (beforeI f f.lots.length) (spotsTo f s f.lots.length) x.ins.length := by
    simp only [spotsTo, ext_at, beforeI_ext f x (Nat.le_refl _), spotsTo_ext f x s (Nat.le_refl _)]
  rw [e1, e2, e3, follTo_mem, Bool.or_eq_false_iff]
  have e4 : hasB x.ins y = false ↔ y ∉ x.ins := by rw [← hasB_iff]; simp
  rw [e4]
  constructor
  · rintro ⟨a, b, ⟨c, d⟩, e⟩; exact ⟨a, b, c, d, e⟩
  · rintro ⟨a, b, c, d, e⟩; exact ⟨a, b, ⟨c, d⟩, e⟩

theorem spots_lt {f : Flow} {s : Int} (h0 : 0 ≤ s) (h1 : s < f.senders) : ∀ k, ∀ y ∈ spotsTo f s k, 0 ≤ y ∧ y < beforeI f k
  | 0, y, hy => by simp [spotsTo] at hy; subst hy; exact ⟨h0, h1⟩
  | k + 1, y, hy => by
    simp only [spotsTo, follTo_mem] at hy
    simp only [beforeI]
    rcases hy with hy | ⟨i, a, b, _⟩
    · have := spots_lt h0 h1 k y hy; omega
    · have := beforeI_mono (f := f) (Nat.zero_le k)
      simp only [beforeI] at this
      omega
theorem ext_ge {f : Flow} {x : Lot} {s : Int} (hl : lotsB (extF f x) (f.lots.length + 1) = true) : (reachL f s).length ≤ (reachL (extF f x) s).length := by
  have := crowd_step (f := extF f x) (s := s) (k := f.lots.length) hl (by rw [ext_len]; exact Nat.le_refl _)
  rw [ext_pre, ext_pre'] at this
  exact this
/-- no own end goes into the lot: the crowd stays -/
theorem ext_out {f : Flow} {x : Lot} {s : Int} (h0 : 0 ≤ s) (h1 : s < f.senders) (hI : ∀ y ∈ x.ins, 0 ≤ y ∧ y < beforeI f f.lots.length ∧ goneB f y f.lots.length = false) (hn : ∀ y ∈ x.ins, y ∉ reachL f s) : (reachL (extF f x) s).length ≤ (reachL f s).length := by
  refine inj_len (fun y => y) _ _ (reachL_nodup _ _) (fun _ _ _ _ h => h) (fun y hy => ?_)
  rw [ext_mem] at hy
  obtain ⟨a, b, c, d, e⟩ := hy
  rw [reachL_mem]
  rcases e with e | ⟨i, hi, rfl, hc⟩
  · exact ⟨a, (spots_lt h0 h1 _ y e).2, c, e⟩
  · rw [canTo_iff] at hc
    obtain ⟨j, hj, hs, _⟩ := hc
    have hm := nth_mem hj
    have h := hI _ hm
    exact absurd ((reachL_mem f s _).2 ⟨h.1, h.2.1, h.2.2, hs⟩) (hn _ hm)

/-- an own end goes into an unknown lot: all its outs can be reached -/
theorem ext_in {f : Flow} {x : Lot} {s y : Int} (hl : lotsB (extF f x) (f.lots.length + 1) = true) (hb : 0 ≤ beforeI f f.lots.length) (hk : x.known = false) (hy : y ∈ x.ins) (hr : y ∈ reachL f s) : x.ins.length ≤ (reachL (extF f x) s).length := by
  have hs := ((reachL_mem f s y).1 hr).2.2.2
  have hi := nth_idx hy
  have hf := lotB_facts (f := extF f x) (k := f.lots.length) (by simp only [lotsB, Bool.and_eq_true] at hl; exact hl.2)
  rw [ext_at, beforeI_ext f x (Nat.le_refl _)] at hf
  have key := inj_len (fun z : Int => beforeI f f.lots.length + (x.ins.idxOf z : Int)) x.ins (reachL (extF f x) s) hf.1 (fun a ha b hb e => by
      have e1 : x.ins.idxOf a = x.ins.idxOf b := by omega
      rw [← (nth_idx ha).2, ← (nth_idx hb).2, e1]) (fun z hz => by
    have hz' := nth_idx hz
    rw [ext_mem]
    have hg : goneB (extF f x) (beforeI f f.lots.length + (x.ins.idxOf z : Int)) (f.lots.length + 1) = false := goneB_new hl (by simp only [Nat.add_sub_cancel]; rw [beforeI_ext f x (Nat.le_refl _)]; omega)
    simp only [goneB, ext_at, goneB_ext f x _ (Nat.le_refl _), Bool.or_eq_false_iff] at hg
    refine ⟨by omega, by omega, hg.1, fun hm => ?_, Or.inr ⟨x.ins.idxOf z, hz'.1, rfl, ?_⟩⟩
    · have := hasB_iff.2 hm; rw [hg.2] at this; cases this
    · rw [canTo_iff]
      exact ⟨x.ins.idxOf y, hi.1, by rw [hi.2]; exact hs, fun h => by rw [hk] at h; cases h⟩)
  exact key
/-- a known lot: the crowd stays -/
theorem ext_known {f : Flow} {x : Lot} {s : Int} (h0 : 0 ≤ s) (h1 : s < f.senders) (hl : lotsB (extF f x) (f.lots.length + 1) = true) (hk : x.known = true) : (reachL (extF f x) s).length ≤ (reachL f s).length := by
  have hf := lotB_facts (f := extF f x) (k := f.lots.length) (by simp only [lotsB, Bool.and_eq_true] at hl; exact hl.2)
  rw [ext_at, beforeI_ext f x (Nat.le_refl _)] at hf
  obtain ⟨g1, g2, g3⟩ := hf
  have hp := g3 hk
  have each : ∀ y ∈ reachL (extF f x) s, ¬ y < beforeI f f.lots.length → ∃ i j : Nat, i < x.ins.length ∧ j < x.ins.length ∧ y = beforeI f f.lots.length + i ∧ nth x.ins j ∈ spotsTo f s f.lots.length ∧ nth x.perm j = i ∧ x.perm.idxOf (y - beforeI f f.lots.length) = j := by
    intro y hy hlt
    rw [ext_mem] at hy
    obtain ⟨a, b, c, d, e⟩ := hy
    rcases e with e | ⟨i, hi, rfl, hc⟩
    · exact absurd (spots_lt h0 h1 _ y e).2 hlt
    · rw [canTo_iff] at hc
      obtain ⟨j, hj, hs, hpj⟩ := hc
      have hm : nth x.perm j ∈ x.perm := nth_mem (by rw [hp.1]; exact hj)
      have hx := nth_idx hm
      have hij : x.perm.idxOf (nth x.perm j) = j := nth_inj hp.2.1 hx.1 (by rw [hp.1]; exact hj) hx.2
      refine ⟨i, j, hi, hj, rfl, hs, hpj hk, ?_⟩
      rw [show beforeI f f.lots.length + (i : Int) - beforeI f f.lots.length = nth x.perm j by rw [hpj hk]; omega]
      exact hij
  refine inj_len (fun y => if y < beforeI f f.lots.length then y else nth x.ins (x.perm.idxOf (y - beforeI f f.lots.length))) _ _ (reachL_nodup _ _) ?_ ?_
  · intro y hy z hz e
    by_cases hy1 : y < beforeI f f.lots.length <;> by_cases hz1 : z < beforeI f f.lots.length
    · simpa only [hy1, hz1, if_true] using e
    · obtain ⟨i, j, a1, a2, a3, a4, a5, a6⟩ := each z hz hz1
      simp only [hy1, hz1, if_true, if_false, a6] at e
      rw [ext_mem] at hy
      exact absurd (e ▸ nth_mem a2) hy.2.2.2.1
    · obtain ⟨i, j, a1, a2, a3, a4, a5, a6⟩ := each y hy hy1
      simp only [hy1, hz1, if_true, if_false, a6] at e
      rw [ext_mem] at hz
      exact absurd (e ▸ nth_mem a2) hz.2.2.2.1
    · obtain ⟨i, j, a1, a2, a3, a4, a5, a6⟩ := each y hy hy1
      obtain ⟨i', j', b1, b2, b3, b4, b5, b6⟩ := each z hz hz1
      simp only [hy1, hz1, if_false, a6, b6] at e
      have := nth_inj g1 a2 b2 e
      subst this
      omega
  · intro y hy
    by_cases hy1 : y < beforeI f f.lots.length
    · simp only [hy1, if_true]
      have hy2 := hy
      rw [ext_mem] at hy2
      obtain ⟨a, b, c, d, e⟩ := hy2
      rw [reachL_mem]
      refine ⟨a, hy1, c, ?_⟩
      rcases e with e | ⟨i, hi, rfl, hc⟩
      · exact e
      · omega
    · obtain ⟨i, j, a1, a2, a3, a4, a5, a6⟩ := each y hy hy1
      simp only [hy1, if_false, a6]
      have := g2 _ (nth_mem a2)
      rw [goneB_ext f x _ (Nat.le_refl _)] at this
      rw [reachL_mem]
      exact ⟨this.1, this.2.1, this.2.2, a4⟩

end Go.Proofs.Ytndcbnnbgedgcaa
