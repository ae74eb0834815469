/-
  Layer 31, in plain Lean: crowds never become smaller.
-/
import Derived.Test.YtndcbnnbgedgcaaP31i
set_option linter.unusedVariables false
set_option linter.unusedSimpArgs false
namespace Go.Proofs.Ytndcbnnbgedgcaa

theorem hasB_iff {l : List Int} {x : Int} : hasB l x = true ↔ x ∈ l := by unfold hasB; simp
theorem pre_len {f : Flow} {k : Nat} (h : k ≤ f.lots.length) : (preF f k).lots.length = k := by simp [preF]; omega
theorem beforeI_pre (f : Flow) (k : Nat) : ∀ j, j ≤ k → beforeI (preF f k) j = beforeI f j
  | 0, _ => rfl
  | j + 1, h => by
    have := beforeI_pre f k j (by omega)
    simp only [beforeI, this]
    simp only [preF, lotAt_take (show j < k by omega)]
theorem goneB_pre (f : Flow) (k : Nat) (x : Int) : ∀ j, j ≤ k → goneB (preF f k) x j = goneB f x j
  | 0, _ => rfl
  | j + 1, h => by
    have := goneB_pre f k x j (by omega)
    simp only [goneB, this]
    simp only [preF, lotAt_take (show j < k by omega)]
theorem lotB_pre (f : Flow) (k : Nat) {j : Nat} (h : j < k) : lotB (preF f k) j = lotB f j := by
  unfold lotB
  simp only [beforeI_pre f k j (by omega), goneB_pre f k _ j (by omega)]
  simp only [preF, lotAt_take h]
theorem lotsB_pre (f : Flow) (k : Nat) : ∀ j, j ≤ k → lotsB (preF f k) j = lotsB f j
  | 0, _ => rfl
  | j + 1, h => by simp only [lotsB, lotsB_pre f k j (by omega), lotB_pre f k (show j < k by omega)]
theorem lotsB_le {f : Flow} {k m : Nat} (h : lotsB f m = true) (hk : k ≤ m) : lotsB f k = true := by
  cases hh : lotsB f k
  · rw [lotsB_false hh hk] at h; cases h
  · rfl
theorem spotsTo_pre (f : Flow) (k : Nat) (s : Int) : ∀ j, j ≤ k → spotsTo (preF f k) s j = spotsTo f s j
  | 0, _ => rfl
  | j + 1, h => by
    have := spotsTo_pre f k s j (by omega)
    simp only [spotsTo, this, beforeI_pre f k j (by omega)]
    simp only [preF, lotAt_take (show j < k by omega)]
theorem checkE_pre {f : Flow} (h : checkE f = 0) {k : Nat} (hk : k ≤ f.lots.length) : checkE (preF f k) = 0 := by
  have hc := checkE_ok h
  have h5 : lotsB (preF f k) k = true := by rw [lotsB_pre f k k (Nat.le_refl _)]; exact lotsB_le hc.2.2.2.2 hk
  have hm := beforeI_mono (f := f) hk
  unfold checkE
  rw [pre_len hk, beforeI_pre f k k (Nat.le_refl _), h5]
  have e : (preF f k).senders = f.senders := rfl
  rw [e, if_neg (by omega), if_neg (by omega)]
  rfl
theorem reachE_pre {f : Flow} {s : Int} (h : reachE f s = 0) {k : Nat} (hk : k ≤ f.lots.length) : reachE (preF f k) s = 0 := by
  unfold reachE at h
  split at h
  · rename_i hc; exact absurd h hc
  · rename_i hc
    have hc : checkE f = 0 := by simpa using hc
    split at h
    · simp at h
    · rename_i hs
      unfold reachE
      have e : (preF f k).senders = f.senders := rfl
      rw [if_neg (by simpa using checkE_pre hc hk), e, if_neg hs]
theorem reachE_ok {f : Flow} {s : Int} (h : reachE f s = 0) : checkE f = 0 ∧ 0 ≤ s ∧ s < f.senders := by
  unfold reachE at h
  split at h
  · rename_i hc; exact absurd h hc
  · rename_i hc
    split at h
    · simp at h
    · rename_i hs
      exact ⟨by simpa using hc, by omega, by omega⟩

theorem canTo_iff (x : Lot) (spots : List Int) (k : Nat) : ∀ m, canTo x spots k m = true ↔ ∃ j, j < m ∧ nth x.ins j ∈ spots ∧ (x.known = true → nth x.perm j = k)
  | 0 => by simp [canTo]
  | m + 1 => by
    have ih := canTo_iff x spots k m
    simp only [canTo, Bool.or_eq_true, Bool.and_eq_true, ih, hasB_iff]
    constructor
    · rintro (⟨j, h1, h2, h3⟩ | ⟨h1, h2⟩)
      · exact ⟨j, by omega, h2, h3⟩
      · refine ⟨m, by omega, h1, fun hk => ?_⟩
        rcases h2 with h2 | h2
        · simp [hk] at h2
        · simpa using h2
    · rintro ⟨j, h1, h2, h3⟩
      by_cases e : j = m
      · subst e
        refine Or.inr ⟨h2, ?_⟩
        cases hk : x.known
        · exact Or.inl rfl
        · exact Or.inr (by simpa using h3 hk)
      · exact Or.inl ⟨j, by omega, h2, h3⟩
theorem follTo_mem (x : Lot) (n : Int) (spots : List Int) (y : Int) : ∀ k, y ∈ follTo x n spots k ↔ y ∈ spots ∨ ∃ i : Nat, i < k ∧ y = n + i ∧ canTo x spots i x.ins.length = true
  | 0 => by simp [follTo]
  | k + 1 => by
    have ih := follTo_mem x n spots y k
    simp only [follTo]
    split
    · rename_i hc
      rw [List.mem_append, ih, List.mem_singleton]
      constructor
      · rintro ((h | ⟨i, h1, h2, h3⟩) | h)
        · exact Or.inl h
        · exact Or.inr ⟨i, by omega, h2, h3⟩
        · exact Or.inr ⟨k, by omega, h, hc⟩
      · rintro (h | ⟨i, h1, h2, h3⟩)
        · exact Or.inl (Or.inl h)
        · by_cases e : i = k
          · subst e; exact Or.inr h2
          · exact Or.inl (Or.inr ⟨i, by omega, h2, h3⟩)
    · rename_i hc
      rw [ih]
      constructor
      · rintro (h | ⟨i, h1, h2, h3⟩)
        · exact Or.inl h
        · exact Or.inr ⟨i, by omega, h2, h3⟩
      · rintro (h | ⟨i, h1, h2, h3⟩)
        · exact Or.inl h
        · by_cases e : i = k
          · subst e; exact absurd h3 hc
          · exact Or.inr ⟨i, by omega, h2, h3⟩
theorem endsTo_nodup (f : Flow) : ∀ k, (endsTo f k).Nodup
  | 0 => by simp [endsTo]
  | k + 1 => by
    have ih := endsTo_nodup f k
    simp only [endsTo]
    split
    · exact ih
    · rw [List.nodup_append]
      refine ⟨ih, by simp, fun a ha b hb e => ?_⟩
      have := (endsTo_mem f a k).1 ha
      simp at hb
      omega
theorem reachL_eq (f : Flow) (s : Int) : reachL f s = (endsL f).filter (hasB (spotsTo f s f.lots.length) ·) := by
  unfold reachL
  rw [amongTo_eq _ _ _ (Nat.le_refl _), List.take_of_length_le (Nat.le_refl _)]
theorem reachL_nodup (f : Flow) (s : Int) : (reachL f s).Nodup := by
  rw [reachL_eq]
  exact List.Nodup.sublist (List.filter_sublist) (endsTo_nodup f _)
theorem reachL_mem (f : Flow) (s x : Int) : x ∈ reachL f s ↔ 0 ≤ x ∧ x < beforeI f f.lots.length ∧ goneB f x f.lots.length = false ∧ x ∈ spotsTo f s f.lots.length := by
  rw [reachL_eq, List.mem_filter, hasB_iff]
  unfold endsL
  rw [endsTo_mem]
  constructor
  · rintro ⟨⟨a, b, c⟩, d⟩; exact ⟨a, by omega, c, d⟩
  · rintro ⟨a, b, c, d⟩; exact ⟨⟨a, by omega, c⟩, d⟩
theorem reachL_pre_mem {f : Flow} {k : Nat} (hk : k ≤ f.lots.length) (s x : Int) : x ∈ reachL (preF f k) s ↔ 0 ≤ x ∧ x < beforeI f k ∧ goneB f x k = false ∧ x ∈ spotsTo f s k := by
  rw [reachL_mem, pre_len hk, beforeI_pre f k k (Nat.le_refl _), goneB_pre f k x k (Nat.le_refl _), spotsTo_pre f k s k (Nat.le_refl _)]

theorem inj_len {α : Type} [DecidableEq α] (g : Int → α) : ∀ (l1 : List Int) (l2 : List α), l1.Nodup → (∀ x ∈ l1, ∀ y ∈ l1, g x = g y → x = y) → (∀ x ∈ l1, g x ∈ l2) → l1.length ≤ l2.length
  | [], _, _, _, _ => by simp
  | a :: t, l2, hn, hi, hm => by
    rw [List.nodup_cons] at hn
    have h1 := hm a (by simp)
    have ih := inj_len g t (l2.erase (g a)) hn.2 (fun x hx y hy => hi x (by simp [hx]) y (by simp [hy])) (fun x hx => by
      have hne : g x ≠ g a := fun e => hn.1 (by rw [← hi x (by simp [hx]) a (by simp) e]; exact hx)
      exact (List.mem_erase_of_ne hne).2 (hm x (by simp [hx])))
    rw [List.length_erase_of_mem h1] at ih
    have := List.length_pos_of_mem h1
    simp only [List.length_cons]
    omega

theorem lotB_facts {f : Flow} {k : Nat} (h : lotB f k = true) : (lotAt f.lots k).ins.Nodup ∧ (∀ x ∈ (lotAt f.lots k).ins, 0 ≤ x ∧ x < beforeI f k ∧ goneB f x k = false) ∧
    ((lotAt f.lots k).known = true → (lotAt f.lots k).perm.length = (lotAt f.lots k).ins.length ∧ (lotAt f.lots k).perm.Nodup ∧ ∀ y ∈ (lotAt f.lots k).perm, 0 ≤ y ∧ y < ((lotAt f.lots k).ins.length : Int)) := by
  unfold lotB at h
  simp only [Bool.and_eq_true] at h
  obtain ⟨⟨⟨_, h2⟩, h3⟩, h4⟩ := h
  refine ⟨by unfold diffB at h2; simpa using h2, fun x hx => ?_, fun hk => ?_⟩
  · have := List.all_eq_true.1 h3 x hx
    simp at this
    exact ⟨this.1.1, this.1.2, this.2⟩
  · rw [if_pos hk] at h4
    unfold permB inB diffB at h4
    simp only [Bool.and_eq_true, decide_eq_true_eq] at h4
    refine ⟨by omega, h4.2.2, fun y hy => ?_⟩
    have := List.all_eq_true.1 h4.1 y hy
    simpa using this
theorem goneB_new {f : Flow} {y : Int} : ∀ {k : Nat}, lotsB f k = true → beforeI f (k - 1) ≤ y → goneB f y k = false
  | 0, _, _ => rfl
  | k + 1, h, hy => by
    simp only [lotsB, Bool.and_eq_true] at h
    simp only [Nat.add_sub_cancel] at hy
    have h0 : goneB f y k = false := goneB_new h.1 (Int.le_trans (beforeI_mono (by omega)) hy)
    simp only [goneB, h0, Bool.false_or]
    cases hh : hasB (lotAt f.lots k).ins y
    · rfl
    · have := (lotB_facts h.2).2.1 y (hasB_iff.1 hh)
      omega
theorem nth_idx {l : List Int} {x : Int} (h : x ∈ l) : l.idxOf x < l.length ∧ nth l (l.idxOf x) = x := by
  have hl := List.idxOf_lt_length_of_mem h
  exact ⟨hl, by rw [nth_eq_getElem hl]; exact List.getElem_idxOf hl⟩
theorem nth_mem {l : List Int} {k : Nat} (h : k < l.length) : nth l k ∈ l := by rw [nth_eq_getElem h]; exact List.getElem_mem h
theorem nth_inj {l : List Int} (h : l.Nodup) {i j : Nat} (hi : i < l.length) (hj : j < l.length) (e : nth l i = nth l j) : i = j := by
  rw [nth_eq_getElem hi, nth_eq_getElem hj] at e
  have hp := List.pairwise_iff_getElem.1 h
  rcases Nat.lt_trichotomy i j with hlt | heq | hlt
  · exact absurd e (hp i j hi hj hlt)
  · exact heq
  · exact absurd e.symm (hp j i hj hi hlt)

/-- CROWDS NEVER BECOME SMALLER. -/
theorem crowd_step {f : Flow} {s : Int} {k : Nat} (hl : lotsB f (k + 1) = true) (hk : k + 1 ≤ f.lots.length) : (reachL (preF f k) s).length ≤ (reachL (preF f (k + 1)) s).length := by
  have hl' := hl
  simp only [lotsB, Bool.and_eq_true] at hl'
  obtain ⟨n1, n2, n3⟩ := lotB_facts hl'.2
  have hb : beforeI f (k + 1) = beforeI f k + (lotAt f.lots k).ins.length := rfl
  have hsp : spotsTo f s (k + 1) = follTo (lotAt f.lots k) (beforeI f k) (spotsTo f s k) (lotAt f.lots k).ins.length := rfl
  have hgs : ∀ x, goneB f x (k + 1) = (goneB f x k || hasB (lotAt f.lots k).ins x) := fun x => rfl
  obtain ⟨d, hd⟩ : ∃ d, lotAt f.lots k = d := ⟨_, rfl⟩
  rw [hd] at n1 n2 n3 hb hsp hgs
  obtain ⟨τ, hτ⟩ : ∃ τ : Int → Int, τ = fun x => if d.known then nth d.perm (d.ins.idxOf x) else (d.ins.idxOf x : Int) := ⟨_, rfl⟩
  have t1 : ∀ x ∈ d.ins, 0 ≤ τ x ∧ τ x < d.ins.length := by
    intro x hx
    have hi := (nth_idx hx).1
    rw [hτ]
    cases hkn : d.known
    · simp only [Bool.false_eq_true, if_false]; omega
    · simp only [if_true]
      exact (n3 hkn).2.2 _ (nth_mem (by rw [(n3 hkn).1]; exact hi))
  have t2 : ∀ x ∈ d.ins, ∀ y ∈ d.ins, τ x = τ y → x = y := by
    intro x hx y hy e
    have hi := nth_idx hx
    have hj := nth_idx hy
    have : d.ins.idxOf x = d.ins.idxOf y := by
      rw [hτ] at e
      cases hkn : d.known
      · simp only [hkn, Bool.false_eq_true, if_false] at e; omega
      · simp only [hkn, if_true] at e
        exact nth_inj (n3 hkn).2.1 (by rw [(n3 hkn).1]; exact hi.1) (by rw [(n3 hkn).1]; exact hj.1) e
    rw [← hi.2, ← hj.2, this]
  have t3 : ∀ x ∈ d.ins, x ∈ spotsTo f s k → canTo d (spotsTo f s k) (τ x).toNat d.ins.length = true := by
    intro x hx hs
    rw [canTo_iff]
    refine ⟨d.ins.idxOf x, (nth_idx hx).1, by rw [(nth_idx hx).2]; exact hs, fun hkn => ?_⟩
    have h0 := t1 x hx
    rw [Int.toNat_of_nonneg h0.1, hτ]
    simp [hkn]
  refine inj_len (fun x => if x ∈ d.ins then beforeI f k + τ x else x) _ _ (reachL_nodup _ _) ?_ ?_
  · intro x hx y hy e
    rw [reachL_pre_mem (by omega)] at hx hy
    by_cases h1 : x ∈ d.ins <;> by_cases h2 : y ∈ d.ins
    · simp only [h1, h2, if_true] at e; exact t2 x h1 y h2 (by omega)
    · simp only [h1, h2, if_true, if_false] at e; have := t1 x h1; omega
    · simp only [h1, h2, if_true, if_false] at e; have := t1 y h2; omega
    · simpa only [h1, h2, if_false] using e
  · intro x hx
    rw [reachL_pre_mem (by omega)] at hx
    obtain ⟨a1, a2, a3, a4⟩ := hx
    rw [reachL_pre_mem hk]
    by_cases h1 : x ∈ d.ins
    · simp only [h1, if_true]
      have h2 := t1 x h1
      refine ⟨by omega, by omega, goneB_new hl (by simp only [Nat.add_sub_cancel]; omega), ?_⟩
      rw [hsp, follTo_mem]
      exact Or.inr ⟨(τ x).toNat, by omega, by omega, t3 x h1 a4⟩
    · simp only [h1, if_false]
      refine ⟨a1, by omega, ?_, ?_⟩
      · rw [hgs, a3]
        cases hh : hasB d.ins x
        · rfl
        · exact absurd (hasB_iff.1 hh) h1
      · rw [hsp, follTo_mem]
        exact Or.inl a4
theorem crowdK_eq {f : Flow} {s : Int} (h : reachE f s = 0) {k : Nat} (hk : k ≤ f.lots.length) : crowdK f s k = (reachL (preF f k) s).length := by
  unfold crowdK reachR
  rw [if_pos (reachE_pre h hk)]
theorem crowdK_mono {f : Flow} {s : Int} (h : reachE f s = 0) {k m : Nat} (hkm : k ≤ m) (hm : m ≤ f.lots.length) : crowdK f s k ≤ crowdK f s m := by
  induction hkm with
  | refl => exact Int.le_refl _
  | @step m hkm ih =>
    refine Int.le_trans (ih (by omega)) ?_
    rw [crowdK_eq h (by omega), crowdK_eq h hm]
    have h1 := crowd_step (s := s) (k := m) (lotsB_le (checkE_ok (reachE_ok h).1).2.2.2.2 hm) hm
    exact Int.ofNat_le.2 h1
theorem enough_mono {f : Flow} {s need : Int} (h : reachE f s = 0) {k m : Nat} (hkm : k ≤ m) (hm : m ≤ f.lots.length) (he : enoughK f s need k = true) : enoughK f s need m = true := by
  have := crowdK_mono h hkm hm
  unfold enoughK at *
  simp at he ⊢
  omega
theorem search_unique {f : Flow} {s need : Int} (h : reachE f s = 0) {r r' : Nat} (h1 : SearchAns (enoughK f s need) (f.lots.length + 1) r) (h2 : SearchAns (enoughK f s need) (f.lots.length + 1) r') : r = r' := by
  have key : ∀ {a b : Nat}, SearchAns (enoughK f s need) (f.lots.length + 1) a → SearchAns (enoughK f s need) (f.lots.length + 1) b → ¬ a < b := by
    intro a b ha hb hlt
    obtain ⟨a1, a2, a3⟩ := ha
    obtain ⟨b1, b2, b3⟩ := hb
    have ea : enoughK f s need a = true := by rcases a3 with e | e; omega; exact e
    have eb : enoughK f s need (b - 1) = false := by rcases b2 with e | e; omega; exact e
    rw [enough_mono h (show a ≤ b - 1 by omega) (by omega) ea] at eb
    cases eb
  have := key h1 h2
  have := key h2 h1
  omega
theorem since_unique {f : Flow} {s need n n' er er' : Int} {ok ok' : Bool} (h1 : SinceAns f s need n ok er) (h2 : SinceAns f s need n' ok' er') : n = n' ∧ ok = ok' ∧ er = er' := by
  obtain ⟨rfl, h1⟩ := h1
  obtain ⟨rfl, h2⟩ := h2
  rcases h1 with ⟨h0, rfl, rfl⟩ | ⟨h0, r, hr, hc⟩
  · rcases h2 with ⟨_, rfl, rfl⟩ | ⟨h0', _⟩
    · exact ⟨rfl, rfl, rfl⟩
    · exact absurd h0' h0
  · rcases h2 with ⟨h0', _⟩ | ⟨_, r', hr', hc'⟩
    · exact absurd h0 h0'
    · obtain rfl := search_unique h0 hr hr'
      rcases hc with ⟨c1, rfl, rfl⟩ | ⟨c1, rfl, rfl⟩ <;> rcases hc' with ⟨c2, rfl, rfl⟩ | ⟨c2, rfl, rfl⟩
      · exact ⟨rfl, rfl, rfl⟩
      · omega
      · omega
      · exact ⟨rfl, rfl, rfl⟩

end Go.Proofs.Ytndcbnnbgedgcaa
