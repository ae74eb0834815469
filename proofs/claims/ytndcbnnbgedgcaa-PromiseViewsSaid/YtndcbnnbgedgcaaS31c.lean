/-
  Layer 31, in plain Lean: the lot that PromiseMore makes.
-/
import Derived.Test.YtndcbnnbgedgcaaS31b
set_option linter.unusedVariables false
set_option linter.unusedSimpArgs false
namespace Go.Proofs.Ytndcbnnbgedgcaa

/-- the ends that the bits name, of the first i -/
def pickTo (ends : List Int) (b : Nat) : Nat → List Int
  | 0 => []
  | i + 1 => if b.testBit i then pickTo ends b i ++ [nth ends i] else pickTo ends b i
/-- n - 1, .., 0 -/
def downTo : Nat → List Int
  | 0 => []
  | n + 1 => (n : Int) :: downTo n
theorem downTo_len : ∀ n, (downTo n).length = n
  | 0 => rfl
  | n + 1 => by simp [downTo, downTo_len n]
theorem downTo_mem (x : Int) : ∀ n, x ∈ downTo n ↔ 0 ≤ x ∧ x < n
  | 0 => by simp [downTo]
  | n + 1 => by simp only [downTo, List.mem_cons, downTo_mem x n]; omega
theorem downTo_nodup : ∀ n, (downTo n).Nodup
  | 0 => by simp [downTo]
  | n + 1 => by
    simp only [downTo, List.nodup_cons]
    exact ⟨fun h => by have := (downTo_mem _ n).1 h; omega, downTo_nodup n⟩
theorem pickTo_len (ends : List Int) (b : Nat) : ∀ i, (pickTo ends b i).length ≤ i
  | 0 => by simp [pickTo]
  | i + 1 => by
    have := pickTo_len ends b i
    simp only [pickTo]
    split
    · simp; omega
    · omega

theorem pickTo_mem {ends : List Int} {b : Nat} {x : Int} : ∀ {i : Nat}, i ≤ ends.length → x ∈ pickTo ends b i → ∃ j, j < i ∧ nth ends j = x
  | 0, _, h => by simp [pickTo] at h
  | i + 1, hi, h => by
    simp only [pickTo] at h
    split at h
    · rcases List.mem_append.1 h with h | h
      · obtain ⟨j, h1, h2⟩ := pickTo_mem (by omega) h
        exact ⟨j, by omega, h2⟩
      · simp at h
        exact ⟨i, by omega, h.symm⟩
    · obtain ⟨j, h1, h2⟩ := pickTo_mem (by omega) h
      exact ⟨j, by omega, h2⟩
theorem pickTo_nodup {ends : List Int} (b : Nat) (hn : ends.Nodup) : ∀ i, i ≤ ends.length → (pickTo ends b i).Nodup
  | 0, _ => by simp [pickTo]
  | i + 1, hi => by
    have ih := pickTo_nodup b hn i (by omega)
    simp only [pickTo]
    split
    · rw [List.nodup_append]
      refine ⟨ih, by simp, fun x hx y hy e => ?_⟩
      simp at hy
      subst hy
      obtain ⟨j, h1, h2⟩ := pickTo_mem (by omega) hx
      have := nth_inj hn (i := j) (j := i) (by omega) (by omega) (by rw [h2, e])
      omega
    · exact ih
/-- the lot of PromiseMore -/
def moreLot (ends : List Int) (b : Nat) (known : Bool) (m : Nat) : Lot := ⟨pickTo ends b m, known, if known then downTo (pickTo ends b m).length else []⟩
theorem few_before {f : Flow} (h : few25 f = true) : ∀ k, k ≤ f.lots.length → beforeI f k ≤ f.senders + k * 70
  | 0, _ => by simp [beforeI]
  | k + 1, hk => by
    have ih := few_before h k (by omega)
    have := (few25_spec h).2 _ (lotAt_mem (ls := f.lots) (k := k) (by omega))
    simp only [beforeI]
    omega
theorem more_ins {f : Flow} {b m : Nat} (hm : m ≤ (endsL f).length) {y : Int} (hy : y ∈ pickTo (endsL f) b m) : 0 ≤ y ∧ y < beforeI f f.lots.length ∧ goneB f y f.lots.length = false := by
  obtain ⟨j, h1, rfl⟩ := pickTo_mem hm hy
  have := (endsTo_mem f _ _).1 (nth_mem (l := endsL f) (k := j) (by omega))
  exact ⟨this.1, by omega, this.2.2⟩
theorem more_check {f : Flow} {b : Nat} {known : Bool} {m : Nat} (hc : checkE f = 0) (hfew : few26 f = true) (h11 : f.lots.length ≤ 11) (hm : m ≤ (endsL f).length) (h32 : m ≤ 32) (hne : pickTo (endsL f) b m ≠ []) :
    checkE (extF f (moreLot (endsL f) b known m)) = 0 := by
  have hck := checkE_ok hc
  have hf25 : few25 f = true := by unfold few26 at hfew; simp only [Bool.and_eq_true] at hfew; exact hfew.1.1
  have hs12 : f.senders ≤ 12 := by unfold few26 at hfew; simp only [Bool.and_eq_true, Bool.or_eq_true, decide_eq_true_eq] at hfew; omega
  have hbf := few_before hf25 f.lots.length (Nat.le_refl _)
  have hpl := pickTo_len (endsL f) b m
  have hlot : lotB (extF f (moreLot (endsL f) b known m)) f.lots.length = true := by
    unfold lotB
    simp only [ext_at, beforeI_ext f _ (Nat.le_refl _), goneB_ext f _ _ (Nat.le_refl _), Bool.and_eq_true]
    refine ⟨⟨⟨decide_eq_true hne, ?_⟩, ?_⟩, ?_⟩
    · unfold diffB; exact decide_eq_true (pickTo_nodup b (endsTo_nodup f _) m hm)
    · rw [List.all_eq_true]
      intro y hy
      have := more_ins hm hy
      simp [this.1, this.2.1, this.2.2]
    · cases known
      · simp [moreLot]
      · simp only [moreLot, if_true]
        unfold permB inB diffB
        simp only [Bool.and_eq_true, decide_eq_true_eq, downTo_len]
        refine ⟨?_, trivial, downTo_nodup _⟩
        rw [List.all_eq_true]
        intro y hy
        have := (downTo_mem y _).1 hy
        simp [this.1, this.2]
  have hall : lotsB (extF f (moreLot (endsL f) b known m)) (f.lots.length + 1) = true := by
    simp only [lotsB, Bool.and_eq_true]
    refine ⟨?_, hlot⟩
    rw [lotsB_ext f _ (Nat.le_refl _)]
    exact hck.2.2.2.2
  unfold checkE
  have e1 : beforeI (extF f (moreLot (endsL f) b known m)) (f.lots.length + 1) = beforeI f f.lots.length + (pickTo (endsL f) b m).length := by simp only [beforeI, ext_at, beforeI_ext f _ (Nat.le_refl _), moreLot]
  have e2 : (extF f (moreLot (endsL f) b known m)).senders = f.senders := rfl
  rw [ext_len, e1, e2, if_neg (by omega), if_neg (by omega), hall]
  rfl
theorem more_reach {f : Flow} {s : Int} {b : Nat} {known : Bool} {m : Nat} (hr : reachE f s = 0) (hfew : few26 f = true) (h11 : f.lots.length ≤ 11) (hm : m ≤ (endsL f).length) (h32 : m ≤ 32) (hne : pickTo (endsL f) b m ≠ []) :
    reachE (extF f (moreLot (endsL f) b known m)) s = 0 := by
  have h := reachE_ok hr
  unfold reachE
  rw [if_neg (by rw [more_check h.1 hfew h11 hm h32 hne]; simp), if_neg (by show ¬ (s < 0 ∨ f.senders ≤ s); omega)]
/-- is one of the first k numbers of a list in another one? -/
def inTo (X own : List Int) : Nat → Bool
  | 0 => false
  | k + 1 => inTo X own k || hasB X (nth own k)
theorem inTo_false {X own : List Int} : ∀ {k : Nat}, inTo X own k = false → ∀ j, j < k → nth own j ∉ X
  | 0, _, j, hj => by omega
  | k + 1, h, j, hj => by
    simp only [inTo, Bool.or_eq_false_iff] at h
    by_cases e : j = k
    · subst e
      intro hm
      rw [hasB_iff.2 hm] at h
      simp at h
    · exact inTo_false h.1 j (by omega)
theorem inTo_true {X own : List Int} : ∀ {k : Nat}, inTo X own k = true → ∃ j, j < k ∧ nth own j ∈ X
  | 0, h => by simp [inTo] at h
  | k + 1, h => by
    simp only [inTo, Bool.or_eq_true] at h
    rcases h with h | h
    · obtain ⟨j, h1, h2⟩ := inTo_true h
      exact ⟨j, by omega, h2⟩
    · exact ⟨k, by omega, hasB_iff.1 h⟩
/-- what PromiseMore says of its numbers -/
theorem more_law {f : Flow} {s : Int} {b : Nat} {known : Bool} {m : Nat} (hr : reachE f s = 0) (hfew : few26 f = true) (h11 : f.lots.length ≤ 11) (hm : m ≤ (endsL f).length) (h32 : m ≤ 32) (hne : pickTo (endsL f) b m ≠ []) :
    ((known || !inTo (pickTo (endsL f) b m) (reachR f s) (reachR f s).length) = true → (reachR (extF f (moreLot (endsL f) b known m)) s).length = (reachR f s).length) ∧
    ((known || !inTo (pickTo (endsL f) b m) (reachR f s) (reachR f s).length) = false → (reachR f s).length ≤ (reachR (extF f (moreLot (endsL f) b known m)) s).length ∧ (pickTo (endsL f) b m).length ≤ (reachR (extF f (moreLot (endsL f) b known m)) s).length) := by
  have h := reachE_ok hr
  have hck := more_check (known := known) h.1 hfew h11 hm h32 hne
  have hl := (checkE_ok hck).2.2.2.2
  rw [ext_len] at hl
  have e1 : reachR f s = reachL f s := by unfold reachR; rw [if_pos hr]
  have e2 : reachR (extF f (moreLot (endsL f) b known m)) s = reachL (extF f (moreLot (endsL f) b known m)) s := by unfold reachR; rw [if_pos (more_reach hr hfew h11 hm h32 hne)]
  have hge := ext_ge (f := f) (x := moreLot (endsL f) b known m) (s := s) hl
  rw [e1, e2]
  constructor
  · intro hh
    refine Nat.le_antisymm ?_ hge
    simp only [Bool.or_eq_true, Bool.not_eq_true'] at hh
    rcases hh with hh | hh
    · exact ext_known h.2.1 h.2.2 hl hh
    · refine ext_out h.2.1 h.2.2 (fun y hy => more_ins hm hy) (fun y hy hmem => ?_)
      have hi := nth_idx hmem
      exact inTo_false hh _ hi.1 (by rw [hi.2]; exact hy)
  · intro hh
    refine ⟨hge, ?_⟩
    simp only [Bool.or_eq_false_iff, Bool.not_eq_false'] at hh
    obtain ⟨j, h1, h2⟩ := inTo_true hh.2
    have hb : 0 ≤ beforeI f f.lots.length := by have := beforeI_mono (f := f) (Nat.zero_le f.lots.length); simp only [beforeI] at this; omega
    exact ext_in (f := f) (x := moreLot (endsL f) b known m) (s := s) (y := nth (reachL f s) j) hl hb hh.1 h2 (nth_mem h1)

end Go.Proofs.Ytndcbnnbgedgcaa
