/-
  Layer 25: what the functions of frankingref25 compute, in plain words.
-/
import Derived.Test.YtndcbnnbgedgcaaLib
set_option linter.unusedVariables false
set_option linter.unusedSimpArgs false
namespace Go.Proofs.Ytndcbnnbgedgcaa

theorem nth_lt {zs : List Int} {k : Nat} (h : k < zs.length) : nth zs k = zs[k] := by
  unfold nth; rw [List.getD_eq_getElem?_getD, List.getElem?_eq_getElem h]; rfl
theorem hasB_take_succ {zs : List Int} {k : Nat} {n : Int} (h : k < zs.length) : hasB (zs.take (k + 1)) n = (hasB (zs.take k) n || (nth zs k == n)) := by
  unfold hasB
  rw [List.take_succ_eq_append_getElem h, nth_lt h]
  rw [Bool.eq_iff_iff]
  simp only [List.contains_iff_mem, List.mem_append, List.mem_singleton, Bool.or_eq_true, beq_iff_eq]
  exact or_congr Iff.rfl eq_comm
theorem hasB_of_take {zs : List Int} {k : Nat} {n : Int} (h : hasB (zs.take k) n = true) : hasB zs n = true := by
  unfold hasB at *
  simp at *
  exact List.mem_of_mem_take h
theorem hasB_take_all {zs : List Int} {k : Nat} {n : Int} (h : zs.length ≤ k) : hasB (zs.take k) n = hasB zs n := by rw [List.take_of_length_le h]

/-- are two lists equal? -/
def sameB (a b : List Int) : Bool := decide (a = b)
theorem sameB_len {a b : List Int} (h : a.length ≠ b.length) : sameB a b = false := by
  unfold sameB; simp; intro e; exact h (by rw [e])
theorem sameB_all {a b : List Int} {k : Nat} (h : sameB (a.take k) (b.take k) = true) (h1 : a.length ≤ k) (h2 : b.length ≤ k) : sameB a b = true := by
  rw [List.take_of_length_le h1, List.take_of_length_le h2] at h; exact h
theorem sameB_succ {a b : List Int} {k : Nat} (h : sameB (a.take k) (b.take k) = true) (h1 : k < a.length) (h2 : k < b.length) (e : nth a k = nth b k) : sameB (a.take (k + 1)) (b.take (k + 1)) = true := by
  unfold sameB at *
  rw [nth_lt h1, nth_lt h2] at e
  have h' := of_decide_eq_true h
  rw [List.take_succ_eq_append_getElem h1, List.take_succ_eq_append_getElem h2, h', e]
  simp
theorem sameB_not {a b : List Int} {k : Nat} (h1 : k < a.length) (h2 : k < b.length) (e : nth a k ≠ nth b k) : sameB a b = false := by
  unfold sameB
  rw [decide_eq_false_iff_not]
  intro h; subst h; exact e rfl

/-- are the numbers of a list pairwise different? -/
def diffB (l : List Int) : Bool := decide l.Nodup
theorem diffB_succ {l : List Int} {k : Nat} (h : k < l.length) : diffB (l.take (k + 1)) = (diffB (l.take k) && !hasB (l.take k) (nth l k)) := by
  unfold diffB hasB
  rw [List.take_succ_eq_append_getElem h, nth_lt h, Bool.eq_iff_iff]
  simp only [decide_eq_true_eq, Bool.and_eq_true, Bool.not_eq_true', List.contains_eq_mem, decide_eq_false_iff_not, List.nodup_append, List.mem_singleton, List.nodup_cons, List.not_mem_nil, not_false_eq_true, List.nodup_nil, and_self, true_and]
  constructor
  · rintro ⟨a, b⟩; exact ⟨a, fun hm => b _ hm _ rfl rfl⟩
  · rintro ⟨a, b⟩; exact ⟨a, fun x hx y hy e => b (by subst hy; subst e; exact hx)⟩
theorem diffB_take_false {l : List Int} {k : Nat} (h : diffB (l.take k) = false) : diffB l = false := by
  unfold diffB at *
  rw [decide_eq_false_iff_not] at *
  exact fun hn => h (List.Sublist.nodup (List.take_sublist k l) hn)
theorem diffB_take_all {l : List Int} {k : Nat} (h : l.length ≤ k) : diffB (l.take k) = diffB l := by rw [List.take_of_length_le h]

/-- are all numbers of a list from 0 to n - 1? -/
def inB (l : List Int) (n : Int) : Bool := l.all fun x => decide (0 ≤ x) && decide (x < n)
theorem inB_succ {l : List Int} {k : Nat} {n : Int} (h : k < l.length) : inB (l.take (k + 1)) n = (inB (l.take k) n && (decide (0 ≤ nth l k) && decide (nth l k < n))) := by
  unfold inB
  rw [List.take_succ_eq_append_getElem h, nth_lt h, List.all_append]
  simp
theorem inB_take_false {l : List Int} {k : Nat} {n : Int} (h : inB (l.take k) n = false) : inB l n = false := by
  unfold inB at *
  rw [List.all_eq_false] at *
  obtain ⟨x, hx, hp⟩ := h
  exact ⟨x, List.mem_of_mem_take hx, hp⟩
theorem inB_take_all {l : List Int} {k : Nat} {n : Int} (h : l.length ≤ k) : inB (l.take k) n = inB l n := by rw [List.take_of_length_le h]
def permB (l : List Int) (n : Int) : Bool := inB l n && (decide ((l.length : Int) = n) && diffB l)

/-- how many spots there are before a lot -/
def beforeI (f : Flow) : Nat → Int
  | 0 => f.senders
  | k + 1 => beforeI f k + (lotAt f.lots k).ins.length
/-- does a spot go into one of the first k lots? -/
def goneB (f : Flow) (spot : Int) : Nat → Bool
  | 0 => false
  | k + 1 => goneB f spot k || hasB (lotAt f.lots k).ins spot
theorem goneB_of {f : Flow} {s : Int} {k m : Nat} (h : goneB f s k = true) (hk : k ≤ m) : goneB f s m = true := by
  induction hk with
  | refl => exact h
  | step _ ih => simp [goneB, ih]
theorem lotAt_mem {ls : List Lot} {k : Nat} (h : k < ls.length) : lotAt ls k ∈ ls := by
  unfold lotAt
  rw [List.getD_eq_getElem?_getD, List.getElem?_eq_getElem h]
  exact List.getElem_mem h
theorem beforeI_le {f : Flow} (hL : ∀ d ∈ f.lots, d.ins.length ≤ 17592186043904) : ∀ k, k ≤ f.lots.length → f.senders ≤ beforeI f k ∧ beforeI f k ≤ f.senders + k * 17592186043904
  | 0, _ => by simp [beforeI]
  | k + 1, h => by
    have ih := beforeI_le hL k (by omega)
    have := hL _ (lotAt_mem (ls := f.lots) (k := k) (by omega))
    simp only [beforeI]
    omega
/-- is lot k valid? -/
def lotB (f : Flow) (k : Nat) : Bool :=
  let d := lotAt f.lots k
  decide (d.ins ≠ []) && diffB d.ins && d.ins.all (fun x => decide (0 ≤ x) && decide (x < beforeI f k) && !goneB f x k) &&
    (if d.known then permB d.perm d.ins.length else decide (d.perm = []))

/-- the spots that go into the first k lots -/
def goneL (f : Flow) : Nat → List Int
  | 0 => []
  | k + 1 => goneL f k ++ (lotAt f.lots k).ins
theorem hasB_goneL (f : Flow) (x : Int) : ∀ k, hasB (goneL f k) x = goneB f x k
  | 0 => by simp [goneL, goneB, hasB]
  | k + 1 => by
    have := hasB_goneL f x k
    unfold hasB at *
    simp only [goneL, goneB]
    rw [← this]
    unfold hasB
    rw [Bool.eq_iff_iff]
    simp only [List.contains_iff_mem, List.mem_append, Bool.or_eq_true]

/-- are the first k lots valid? -/
def lotsB (f : Flow) : Nat → Bool
  | 0 => true
  | k + 1 => lotsB f k && lotB f k
theorem lotsB_false {f : Flow} {k m : Nat} (h : lotsB f k = false) (hk : k ≤ m) : lotsB f m = false := by
  induction hk with
  | refl => exact h
  | step _ ih => simp [lotsB, ih]
theorem lotsB_lot {f : Flow} {k m : Nat} (h : lotsB f m = true) (hk : k < m) : lotB f k = true := by
  induction m with
  | zero => omega
  | succ m ih =>
    simp only [lotsB, Bool.and_eq_true] at h
    by_cases e : k = m
    · rw [e]; exact h.2
    · exact ih h.1 (by omega)
/-- the error code of Check -/
def checkE (f : Flow) : Int :=
  if 64 < f.senders ∨ 2000 < f.lots.length ∨ 50000 < beforeI f f.lots.length then 2
  else if f.senders < 0 then 250
  else if lotsB f f.lots.length then 0 else 250
theorem checkE_ok {f : Flow} (h : checkE f = 0) : 0 ≤ f.senders ∧ f.senders ≤ 64 ∧ f.lots.length ≤ 2000 ∧ beforeI f f.lots.length ≤ 50000 ∧ lotsB f f.lots.length = true := by
  unfold checkE at h
  split at h
  · simp at h
  · split at h
    · simp at h
    · split at h
      · refine ⟨by omega, by omega, by omega, by omega, by assumption⟩
      · simp at h
theorem checkE_64 (f : Flow) : I64 (checkE f) := by
  unfold checkE I64; split
  · omega
  · split
    · omega
    · split <;> omega
theorem beforeI_mono {f : Flow} {k m : Nat} (h : k ≤ m) : beforeI f k ≤ beforeI f m := by
  induction h with
  | refl => exact Int.le_refl _
  | step _ ih => simp only [beforeI]; omega
/-- the ends among the first k spots -/
def endsTo (f : Flow) : Nat → List Int
  | 0 => []
  | k + 1 => if goneB f k f.lots.length then endsTo f k else endsTo f k ++ [(k : Int)]
theorem endsTo_len (f : Flow) : ∀ k, (endsTo f k).length ≤ k
  | 0 => by simp [endsTo]
  | k + 1 => by
    have := endsTo_len f k
    simp only [endsTo]
    split
    · omega
    · simp; omega
theorem endsTo_mem (f : Flow) (x : Int) : ∀ k : Nat, x ∈ endsTo f k ↔ 0 ≤ x ∧ x < k ∧ goneB f x f.lots.length = false
  | 0 => by simp [endsTo]; omega
  | k + 1 => by
    have ih := endsTo_mem f x k
    simp only [endsTo]
    split
    · rename_i hg
      rw [ih]
      constructor
      · rintro ⟨a, b, c⟩; exact ⟨a, by omega, c⟩
      · rintro ⟨a, b, c⟩
        refine ⟨a, ?_, c⟩
        by_cases e : x = k
        · subst e; rw [hg] at c; simp at c
        · omega
    · rename_i hg
      simp only [List.mem_append, ih, List.mem_singleton]
      constructor
      · rintro (⟨a, b, c⟩ | rfl)
        · exact ⟨a, by omega, c⟩
        · exact ⟨by omega, by omega, by simpa using hg⟩
      · rintro ⟨a, b, c⟩
        by_cases e : x = k
        · exact Or.inr e
        · exact Or.inl ⟨a, by omega, c⟩
def endsL (f : Flow) : List Int := endsTo f (beforeI f f.lots.length).toNat
def endsR (f : Flow) : List Int := if checkE f = 0 then endsL f else []

/-- Few of layer 25 -/
def fewTo (f : Flow) : Nat → Bool
  | 0 => true
  | k + 1 => fewTo f k && (decide ((lotAt f.lots k).ins.length ≤ 70) && decide ((lotAt f.lots k).perm.length ≤ 70))
theorem fewTo_false {f : Flow} {k m : Nat} (h : fewTo f k = false) (hk : k ≤ m) : fewTo f m = false := by
  induction hk with
  | refl => exact h
  | step _ ih => simp [fewTo, ih]
def few25 (f : Flow) : Bool := fewTo f (min f.lots.length 20) && decide (f.lots.length ≤ 20)
theorem few25_spec {f : Flow} (h : few25 f = true) : f.lots.length ≤ 20 ∧ ∀ d ∈ f.lots, d.ins.length ≤ 70 ∧ d.perm.length ≤ 70 := by
  unfold few25 at h
  simp only [Bool.and_eq_true, decide_eq_true_eq] at h
  obtain ⟨h1, h2⟩ := h
  refine ⟨h2, ?_⟩
  rw [Nat.min_eq_left h2] at h1
  have key : ∀ m, m ≤ f.lots.length → fewTo f m = true → ∀ j, j < m → (lotAt f.lots j).ins.length ≤ 70 ∧ (lotAt f.lots j).perm.length ≤ 70 := by
    intro m
    induction m with
    | zero => intro _ _ j hj; omega
    | succ m ih =>
      intro hm h j hj
      simp only [fewTo, Bool.and_eq_true, decide_eq_true_eq] at h
      by_cases e : j = m
      · subst e; exact h.2
      · exact ih (by omega) h.1 j (by omega)
  intro d hd
  obtain ⟨j, hj, rfl⟩ := List.getElem_of_mem hd
  have := key _ (Nat.le_refl _) h1 j hj
  have e : lotAt f.lots j = f.lots[j] := by unfold lotAt; rw [List.getD_eq_getElem?_getD, List.getElem?_eq_getElem hj]; rfl
  rwa [e] at this
/-- Few of layer 26 -/
def few26 (f : Flow) : Bool := few25 f && decide (f.lots.length ≤ 12) && (decide (f.senders ≤ 12) || decide (64 < f.senders))

end Go.Proofs.Ytndcbnnbgedgcaa
