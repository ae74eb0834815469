/-
  Texts that stood one after the other, joined by a program (each part's own remark stands at its head below).
-/
import Derived.Test.YtndcbnnbgedgcaaS31
import Derived.Test.YtndcbnnbgedgcaaF25v
import Derived.Test.YtndcbnnbgedgcaaR25e
import Derived.Deep.RegionHeld3
import Derived.Test.YtndcbnnbgedgcaaMaps
import Derived.Maps.RangeRun
import Derived.Test.YtndcbnnbgedgcaaR26d
/-
  Layer 28, in plain Lean: where spots go, the unknown lots to which letters come, last and first lots, products.
-/
set_option linter.unusedVariables false
set_option linter.unusedSimpArgs false
namespace Go.Proofs.Ytndcbnnbgedgcaa

/-- the lot and the place where a spot goes, among the first k lots -/
def locTo (f : Flow) (x : Int) : Nat → Option (Nat × Nat)
  | 0 => none
  | k + 1 => if hasB (lotAt f.lots k).ins x then some (k, (lotAt f.lots k).ins.idxOf x) else locTo f x k
/-- where a letter is behind k lots -/
def spotAt (f : Flow) (s : Int) : Nat → Int
  | 0 => s
  | k + 1 => if hasB (lotAt f.lots k).ins (spotAt f s k) then beforeI f k + nth (lotAt f.lots k).perm ((lotAt f.lots k).ins.idxOf (spotAt f s k)) else spotAt f s k
/-- the first unknown lot to which a letter comes, among the first k lots; -1 if there is none -/
def unkTo (f : Flow) (s : Int) : Nat → Int
  | 0 => -1
  | k + 1 => if 0 ≤ unkTo f s k then unkTo f s k else if hasB (lotAt f.lots k).ins (spotAt f s k) && !(lotAt f.lots k).known then (k : Int) else -1
def unkI (f : Flow) (s : Int) : Int := unkTo f s f.lots.length
/-- the lots to which a letter comes, up to an unknown one -/
def visTo (f : Flow) (s : Int) : Nat → List Nat
  | 0 => []
  | k + 1 => if 0 ≤ unkTo f s k then visTo f s k else if hasB (lotAt f.lots k).ins (spotAt f s k) then visTo f s k ++ [k] else visTo f s k
def visAt (l : List Nat) (i : Nat) : Nat := l.getD i 0

theorem unkTo_lt (f : Flow) (s : Int) : ∀ k, -1 ≤ unkTo f s k ∧ unkTo f s k < k
  | 0 => by simp [unkTo]
  | k + 1 => by
    have ih := unkTo_lt f s k
    simp only [unkTo]
    split
    · omega
    · split <;> omega
theorem unkTo_stay {f : Flow} {s : Int} {k m : Nat} (h : 0 ≤ unkTo f s k) (hk : k ≤ m) : unkTo f s m = unkTo f s k := by
  induction hk with
  | refl => rfl
  | @step m _ ih => simp only [unkTo]; rw [if_pos (by rw [ih]; exact h), ih]
theorem visTo_stay {f : Flow} {s : Int} {k m : Nat} (h : 0 ≤ unkTo f s k) (hk : k ≤ m) : visTo f s m = visTo f s k := by
  induction hk with
  | refl => rfl
  | @step m hm ih => simp only [visTo]; rw [if_pos (by rw [unkTo_stay h hm]; exact h), ih]
theorem visTo_prefix (f : Flow) (s : Int) {k m : Nat} (h : k ≤ m) : ∃ t, visTo f s m = visTo f s k ++ t := by
  induction h with
  | refl => exact ⟨[], by simp⟩
  | @step m _ ih =>
    obtain ⟨t, ht⟩ := ih
    simp only [visTo]
    split
    · exact ⟨t, ht⟩
    · split
      · exact ⟨t ++ [m], by rw [ht, List.append_assoc]⟩
      · exact ⟨t, ht⟩
theorem visTo_len (f : Flow) (s : Int) : ∀ k, (visTo f s k).length ≤ k
  | 0 => by simp [visTo]
  | k + 1 => by
    have := visTo_len f s k
    simp only [visTo]
    split
    · omega
    · split
      · simp; omega
      · omega
theorem visTo_lt (f : Flow) (s : Int) : ∀ k, ∀ j ∈ visTo f s k, j < k
  | 0, j, h => by simp [visTo] at h
  | k + 1, j, h => by
    have ih := visTo_lt f s k
    simp only [visTo] at h
    split at h
    · have := ih j h; omega
    · split at h
      · rcases List.mem_append.1 h with h | h
        · have := ih j h; omega
        · simp at h; omega
      · have := ih j h; omega
/-- a lot that is visited and not known is the answer -/
theorem vis_unknown (f : Flow) (s : Int) : ∀ k, ∀ j ∈ visTo f s k, (lotAt f.lots j).known = false → unkTo f s k = j
  | 0, j, h, _ => by simp [visTo] at h
  | k + 1, j, h, hj => by
    have ih := vis_unknown f s k
    have hl := unkTo_lt f s k
    simp only [visTo] at h
    simp only [unkTo]
    split at h
    · rename_i h0
      rw [if_pos h0]
      exact ih j h hj
    · rename_i h0
      rw [if_neg h0]
      split at h
      · rename_i h1
        rcases List.mem_append.1 h with h | h
        · have := ih j h hj; omega
        · simp at h
          subst h
          rw [h1, hj]
          rfl
      · have := ih j h hj; omega
/-- where all visited lots are known there is none -/
theorem vis_known (f : Flow) (s : Int) : ∀ k, (∀ j ∈ visTo f s k, (lotAt f.lots j).known = true) → unkTo f s k = -1
  | 0, _ => rfl
  | k + 1, h => by
    have ih := vis_known f s k
    simp only [visTo] at h
    simp only [unkTo]
    split at h
    · rename_i h0
      have := ih h
      omega
    · rename_i h0
      rw [if_neg h0]
      split at h
      · rename_i h1
        have := h k (by simp)
        rw [this]
        simp
      · rename_i h1
        rw [show hasB (lotAt f.lots k).ins (spotAt f s k) = false by simpa using h1]
        rfl

/-! ### in a valid flow -/
theorem ins_lt {f : Flow} {m k : Nat} (h : lotsB f m = true) (hk : k < m) {x : Int} (hx : hasB (lotAt f.lots k).ins x = true) : 0 ≤ x ∧ x < beforeI f k ∧ goneB f x k = false :=
  (lotB_facts (lotsB_lot h hk)).2.1 x (hasB_iff.1 hx)
theorem goneB_has {f : Flow} {x : Int} {j k : Nat} (h : hasB (lotAt f.lots j).ins x = true) (hj : j < k) : goneB f x k = true :=
  goneB_of (k := j + 1) (by simp [goneB, h]) hj
/-- each spot goes into one lot alone -/
theorem ins_one {f : Flow} {m j k : Nat} (h : lotsB f m = true) (hj : j < m) (hk : k < m) {x : Int} (h1 : hasB (lotAt f.lots j).ins x = true) (h2 : hasB (lotAt f.lots k).ins x = true) : j = k := by
  rcases Nat.lt_trichotomy j k with h3 | h3 | h3
  · have := (ins_lt h hk h2).2.2
    rw [goneB_has h1 h3] at this; cases this
  · exact h3
  · have := (ins_lt h hj h1).2.2
    rw [goneB_has h2 h3] at this; cases this
theorem locTo_some {f : Flow} {x : Int} {j : Nat} : ∀ {m : Nat}, lotsB f m = true → j < m → hasB (lotAt f.lots j).ins x = true → locTo f x m = some (j, (lotAt f.lots j).ins.idxOf x)
  | 0, _, hj, _ => by omega
  | m + 1, h, hj, hx => by
    simp only [locTo]
    by_cases e : j = m
    · subst e; rw [if_pos hx]
    · rw [if_neg (fun h2 => e (ins_one h hj (Nat.lt_succ_self m) hx h2))]
      refine locTo_some ?_ (by omega) hx
      simp only [lotsB, Bool.and_eq_true] at h
      exact h.1
theorem locTo_none {f : Flow} {x : Int} : ∀ {m : Nat}, locTo f x m = none → ∀ j, j < m → hasB (lotAt f.lots j).ins x = false
  | 0, _, j, hj => by omega
  | m + 1, h, j, hj => by
    simp only [locTo] at h
    split at h
    · cases h
    · rename_i h1
      by_cases e : j = m
      · subst e; simpa using h1
      · exact locTo_none h j (by omega)
theorem locTo_in {f : Flow} {x : Int} {j i : Nat} : ∀ {m : Nat}, locTo f x m = some (j, i) → j < m ∧ hasB (lotAt f.lots j).ins x = true ∧ i = (lotAt f.lots j).ins.idxOf x
  | 0, h => by simp [locTo] at h
  | m + 1, h => by
    simp only [locTo] at h
    split at h
    · rename_i h1
      injection h with h
      injection h with h2 h3
      subst h2
      exact ⟨by omega, h1, h3.symm⟩
    · have := locTo_in h
      exact ⟨by omega, this.2⟩
theorem perm_ge {f : Flow} {m k : Nat} (h : lotsB f m = true) (hk : k < m) (i : Nat) : 0 ≤ nth (lotAt f.lots k).perm i := by
  by_cases hi : i < (lotAt f.lots k).perm.length
  · have hl := lotsB_lot h hk
    cases hkn : (lotAt f.lots k).known
    · unfold lotB at hl
      simp only [hkn, Bool.and_eq_true, Bool.false_eq_true, if_false, decide_eq_true_eq] at hl
      rw [hl.2] at hi
      simp at hi
    · exact ((lotB_facts hl).2.2 hkn).2.2 _ (nth_mem hi) |>.1
  · unfold nth
    rw [List.getD_eq_getElem?_getD, List.getElem?_eq_none (by omega)]
    exact Int.le_refl _
/-- behind k lots a letter is at no spot that goes into one of them -/
theorem spotAt_not {f : Flow} {m : Nat} (h : lotsB f m = true) (s : Int) : ∀ k, k ≤ m → ∀ j, j < k → hasB (lotAt f.lots j).ins (spotAt f s k) = false
  | 0, _, j, hj => by omega
  | k + 1, hk, j, hj => by
    cases hh : hasB (lotAt f.lots j).ins (spotAt f s (k + 1)) with
    | false => rfl
    | true =>
    exfalso
    simp only [spotAt] at hh
    split at hh
    · have h1 := (ins_lt h (show j < m by omega) hh).2.1
      have h2 := beforeI_mono (f := f) (show j ≤ k by omega)
      have h3 := perm_ge h (show k < m by omega) ((lotAt f.lots k).ins.idxOf (spotAt f s k))
      omega
    · rename_i h0
      by_cases e : j = k
      · subst e; exact h0 hh
      · rw [spotAt_not h s k (by omega) j (by omega)] at hh; cases hh
/-- a letter stays as long as its spot goes into no lot -/
theorem spotAt_stay {f : Flow} {s : Int} {k m : Nat} (hk : k ≤ m) (h : ∀ j, k ≤ j → j < m → hasB (lotAt f.lots j).ins (spotAt f s k) = false) : spotAt f s m = spotAt f s k := by
  induction hk with
  | refl => rfl
  | @step m hm ih =>
    have e := ih (fun j h1 h2 => h j h1 (by omega))
    simp only [spotAt]
    rw [e, if_neg (by rw [h m hm (by omega)]; simp)]
theorem unkTo_stay' {f : Flow} {s : Int} {k m : Nat} (hk : k ≤ m) (h : ∀ j, k ≤ j → j < m → hasB (lotAt f.lots j).ins (spotAt f s k) = false) (h0 : ¬ 0 ≤ unkTo f s k) : unkTo f s m = -1 := by
  have hl := unkTo_lt f s k
  induction hk with
  | refl => omega
  | @step m hm ih =>
    have e := ih (fun j h1 h2 => h j h1 (by omega))
    have e2 := spotAt_stay hm (fun j h1 h2 => h j h1 (by omega))
    simp only [unkTo]
    rw [e, e2, h m hm (by omega)]
    rfl
theorem visTo_stay' {f : Flow} {s : Int} {k m : Nat} (hk : k ≤ m) (h : ∀ j, k ≤ j → j < m → hasB (lotAt f.lots j).ins (spotAt f s k) = false) (h0 : ¬ 0 ≤ unkTo f s k) : visTo f s m = visTo f s k := by
  induction hk with
  | refl => rfl
  | @step m hm ih =>
    have e := ih (fun j h1 h2 => h j h1 (by omega))
    have e2 := spotAt_stay hm (fun j h1 h2 => h j h1 (by omega))
    simp only [visTo]
    rw [e, e2, h m hm (by omega)]
    split <;> rfl
/-- the next lot to which a letter comes -/
theorem next_lot {f : Flow} {m : Nat} (h : lotsB f m = true) {s : Int} {k j : Nat} (hk : k ≤ m) (h0 : ¬ 0 ≤ unkTo f s k) (hj : j < m) (hx : hasB (lotAt f.lots j).ins (spotAt f s k) = true) :
    k ≤ j ∧ spotAt f s j = spotAt f s k ∧ ¬ 0 ≤ unkTo f s j ∧ visTo f s (j + 1) = visTo f s k ++ [j] := by
  have hkj : k ≤ j := by
    rcases Nat.lt_or_ge j k with h1 | h1
    · rw [spotAt_not h s k hk j h1] at hx; cases hx
    · exact h1
  have hno : ∀ i, k ≤ i → i < j → hasB (lotAt f.lots i).ins (spotAt f s k) = false := by
    intro i h1 h2
    cases hh : hasB (lotAt f.lots i).ins (spotAt f s k) with
    | false => rfl
    | true => have := ins_one h (show i < m by omega) hj hh hx; omega
  have e1 := spotAt_stay hkj hno
  have e2 := unkTo_stay' hkj hno h0
  have e3 := visTo_stay' hkj hno h0
  refine ⟨hkj, e1, by omega, ?_⟩
  simp only [visTo]
  rw [if_neg (by omega), e1, if_pos hx, e3]
theorem no_lot {f : Flow} {m : Nat} {s : Int} {k : Nat} (hk : k ≤ m) (h0 : ¬ 0 ≤ unkTo f s k) (hx : locTo f (spotAt f s k) m = none) : visTo f s m = visTo f s k :=
  visTo_stay' hk (fun j _ h2 => locTo_none hx j h2) h0

/-- an out of a lot comes to no lot that is not later -/
theorem unk_later {f : Flow} {m : Nat} (h : lotsB f m = true) {k : Nat} (hk : k < m) {s : Int} (hs : beforeI f k ≤ s) : unkTo f s m < 0 ∨ (k : Int) < unkTo f s m := by
  have key : ∀ q, q ≤ m → (q ≤ k + 1 → spotAt f s q = s ∧ unkTo f s q = -1) ∧ (unkTo f s q < 0 ∨ (k : Int) < unkTo f s q) := by
    intro q
    induction q with
    | zero => intro _; exact ⟨fun _ => ⟨rfl, rfl⟩, Or.inl (by simp [unkTo])⟩
    | succ q ih =>
      intro hq
      obtain ⟨i1, i2⟩ := ih (by omega)
      by_cases hle : q ≤ k
      · obtain ⟨j1, j2⟩ := i1 (by omega)
        have hno : hasB (lotAt f.lots q).ins s = false := by
          cases hh : hasB (lotAt f.lots q).ins s with
          | false => rfl
          | true =>
            have h1 := (ins_lt h (show q < m by omega) hh).2.1
            have h2 := beforeI_mono (f := f) hle
            omega
        have e1 : spotAt f s (q + 1) = s := by simp only [spotAt]; rw [j1, hno]; rfl
        have e2 : unkTo f s (q + 1) = -1 := by simp only [unkTo]; rw [j2, j1, hno]; rfl
        exact ⟨fun _ => ⟨e1, e2⟩, Or.inl (by omega)⟩
      · refine ⟨fun hc => by omega, ?_⟩
        simp only [unkTo]
        split
        · exact i2
        · split
          · right; omega
          · left; omega
  exact (key m (Nat.le_refl _)).2

/-! ### last and first lots -/
/-- does none of the first i outs of a lot come to an unknown lot? -/
def lastTo (f : Flow) (k : Nat) : Nat → Bool
  | 0 => true
  | i + 1 => lastTo f k i && decide (unkI f (beforeI f k + i) < 0)
def lastB (f : Flow) (k : Nat) : Bool := lastTo f k (lotAt f.lots k).ins.length
/-- does one of the first i outs of lot k come to the unknown lot m? -/
def comesTo (f : Flow) (m k : Nat) : Nat → Bool
  | 0 => false
  | i + 1 => comesTo f m k i || (unkI f (beforeI f k + i) == (m : Int))
/-- is lot m reached from an unknown one of the first k lots? -/
def hitTo (f : Flow) (m : Nat) : Nat → Bool
  | 0 => false
  | k + 1 => hitTo f m k || (!(lotAt f.lots k).known && comesTo f m k (lotAt f.lots k).ins.length)
def firstB (f : Flow) (k : Nat) : Bool := !hitTo f k k
def lastL (f : Flow) : Nat → List Int
  | 0 => []
  | k + 1 => if !(lotAt f.lots k).known && lastB f k then lastL f k ++ [(k : Int)] else lastL f k
def firstL (f : Flow) : Nat → List Int
  | 0 => []
  | k + 1 => if !(lotAt f.lots k).known && firstB f k then firstL f k ++ [(k : Int)] else firstL f k
theorem lastL_mem (f : Flow) : ∀ k, ∀ x ∈ lastL f k, 0 ≤ x ∧ x < k
  | 0, x, h => by simp [lastL] at h
  | k + 1, x, h => by
    have ih := lastL_mem f k
    simp only [lastL] at h
    split at h
    · rcases List.mem_append.1 h with h | h
      · have := ih x h; omega
      · simp at h; omega
    · have := ih x h; omega
theorem firstL_mem (f : Flow) : ∀ k, ∀ x ∈ firstL f k, 0 ≤ x ∧ x < k
  | 0, x, h => by simp [firstL] at h
  | k + 1, x, h => by
    have ih := firstL_mem f k
    simp only [firstL] at h
    split at h
    · rcases List.mem_append.1 h with h | h
      · have := ih x h; omega
      · simp at h; omega
    · have := ih x h; omega
theorem lastL_len (f : Flow) : ∀ k, (lastL f k).length ≤ k
  | 0 => by simp [lastL]
  | k + 1 => by
    have := lastL_len f k
    simp only [lastL]
    split
    · simp; omega
    · omega
theorem firstL_len (f : Flow) : ∀ k, (firstL f k).length ≤ k
  | 0 => by simp [firstL]
  | k + 1 => by
    have := firstL_len f k
    simp only [firstL]
    split
    · simp; omega
    · omega
theorem comesTo_self {f : Flow} {m : Nat} (h : lotsB f m = true) (hm : m = f.lots.length) {k : Nat} (hk : k < m) : ∀ i, comesTo f k k i = false
  | 0 => rfl
  | i + 1 => by
    simp only [comesTo, comesTo_self h hm hk i, Bool.false_or]
    have := unk_later h hk (s := beforeI f k + i) (by omega)
    unfold unkI
    rw [← hm]
    simp
    omega
theorem hitTo_at {f : Flow} (h : lotsB f f.lots.length = true) {k : Nat} (hk : k < f.lots.length) : hitTo f k (k + 1) = hitTo f k k := by
  simp only [hitTo, comesTo_self h rfl hk, Bool.and_false, Bool.or_false]

/-! ### products of factorials -/
def mostI : Int := 1152921504606846976
/-- n times the factorial of m; none if it is too great -/
def facTo (n : Int) : Nat → Option Int
  | 0 => some n
  | i + 1 => match facTo n i with
    | none => none
    | some v => if mostI / ((i : Int) + 1) < v then none else some (v * ((i : Int) + 1))
def prodTo (f : Flow) (l : List Int) : Nat → Option Int
  | 0 => some 1
  | k + 1 => match prodTo f l k with
    | none => none
    | some v => facTo v (lotAt f.lots (nth l k).toNat).ins.length
def prodR (f : Flow) (l : List Int) : Int := (prodTo f l l.length).getD 0
def prodB (f : Flow) (l : List Int) : Bool := (prodTo f l l.length).isSome
theorem facTo_bd {n : Int} (h1 : 1 ≤ n) (h2 : n ≤ mostI) : ∀ i v, facTo n i = some v → 1 ≤ v ∧ v ≤ mostI
  | 0, v, h => by simp [facTo] at h; omega
  | i + 1, v, h => by
    simp only [facTo] at h
    split at h
    · cases h
    · rename_i u hu
      have ih := facTo_bd h1 h2 i u hu
      split at h
      · cases h
      · rename_i hle
        injection h with h
        subst h
        have hp : (0 : Int) < (i : Int) + 1 := by omega
        have h3 : u ≤ mostI / ((i : Int) + 1) := by omega
        have h4 : u * ((i : Int) + 1) ≤ mostI := (Int.le_ediv_iff_mul_le hp).1 h3
        refine ⟨?_, h4⟩
        have := Int.mul_le_mul_of_nonneg_left (show (1 : Int) ≤ (i : Int) + 1 by omega) (show 0 ≤ u by omega)
        omega
theorem facTo_none {n : Int} {i m : Nat} (h : facTo n i = none) (hm : i ≤ m) : facTo n m = none := by
  induction hm with
  | refl => exact h
  | step _ ih => simp [facTo, ih]
theorem prodTo_bd {f : Flow} {l : List Int} : ∀ k v, prodTo f l k = some v → 1 ≤ v ∧ v ≤ mostI
  | 0, v, h => by simp [prodTo] at h; subst h; unfold mostI; omega
  | k + 1, v, h => by
    simp only [prodTo] at h
    split at h
    · cases h
    · rename_i u hu
      have ih := prodTo_bd k u hu
      exact facTo_bd ih.1 ih.2 _ v h
theorem prodTo_none {f : Flow} {l : List Int} {k m : Nat} (h : prodTo f l k = none) (hm : k ≤ m) : prodTo f l m = none := by
  induction hm with
  | refl => exact h
  | step _ ih => simp [prodTo, ih]
theorem facTo_one {n : Int} (h1 : 1 ≤ n) (h2 : n ≤ mostI) : facTo n 1 = some n := by
  simp only [facTo]
  rw [if_neg (by simp; omega)]
  simp

end Go.Proofs.Ytndcbnnbgedgcaa

/-
  The walks of frankingref28.place, Unknown, last, first.
-/
set_option linter.unusedVariables false
set_option linter.unusedSimpArgs false
namespace Go.Proofs.Ytndcbnnbgedgcaa
open Go.RowKit

set_option maxHeartbeats 1000000 in
/-- frankingref28.place -/
theorem place_any (B : Nat) (w : World) (v : Value) (zs : List Int) (x : Int) (hv : IsInts B w v zs) :
    Calls Try.prog 85 #[v, .int .i64 x] w fun e w' => e = .returned (.int .i64 (idxI zs x)) ∧ w' = w := by
  obtain ⟨b, off, cap, ⟨a, rfl, hcap, hmax, ha⟩, hlen, hz, hc⟩ := hv
  have HC := Lib.hid hc
  clear hc hz
  go_enter Try.func85, Try.ntmps85
  go_wp2
  go_loop [5] (fun i => ∃ k : Nat, k ≤ zs.length ∧ i = .int .i64 k ∧ hasB (zs.take k) x = false) (fun i => zs.length - (intOf i).toNat)
  case atStart => exact ⟨0, by omega, rfl, rfl⟩
  case round =>
    obtain ⟨k, hk, rfl, hno⟩ := hrel
    have HN := Lib.hid hno
    clear hno
    by_cases hlt : k < zs.length
    · obtain rfl : a = some ⟨b, off, none⟩ := by rcases ha with ha | ha; exact ha; omega
      have hcell := (HC.out k hlt).2
      have HT := Lib.hid (hasB_take_succ (n := x) hlt)
      clear ha
      by_cases he : nth zs k = x
      · have HX := Lib.hid (idxI_found HN.out hlt he)
        have he2 : (nth zs k == x) = true := by simp [he]
        clear he
        go_wp2
        go_ret
        exact ⟨by rw [HX.out]; rfl, rfl⟩
      · have he2 : (nth zs k == x) = false := by simpa using he
        have HE2 := Lib.hid he2
        clear he
        go_wp2
        go_round
        case rel => exact ⟨k + 1, by omega, by go_num, by rw [HT.out, HN.out, HE2.out]; rfl⟩
        case measure => simp [intOf]; omega
    · have HX := Lib.hid (idxI_none (l := zs) (x := x) (by rw [← hasB_take_all (k := k) (by omega)]; exact HN.out))
      go_wp2
      go_ret
      exact ⟨by rw [HX.out]; rfl, rfl⟩

theorem idxI_in {l : List Int} {x : Int} (h : hasB l x = true) : idxI l x = (l.idxOf x : Int) ∧ l.idxOf x < l.length := by
  have hm := hasB_iff.1 h
  unfold idxI
  rw [if_pos hm]
  exact ⟨rfl, (nth_idx hm).1⟩
theorem perm_len {f : Flow} {k : Nat} (hv : lotsB f f.lots.length = true) (hk : k < f.lots.length) (hkn : (lotAt f.lots k).known = true) : (lotAt f.lots k).perm.length = (lotAt f.lots k).ins.length :=
  ((lotB_facts (lotsB_lot hv hk)).2.2 hkn).1
theorem perm_lt {f : Flow} {k i : Nat} (hv : lotsB f f.lots.length = true) (hk : k < f.lots.length) (hkn : (lotAt f.lots k).known = true) (hi : i < (lotAt f.lots k).ins.length) : 0 ≤ nth (lotAt f.lots k).perm i ∧ nth (lotAt f.lots k).perm i < (lotAt f.lots k).ins.length := by
  have h := (lotB_facts (lotsB_lot hv hk)).2.2 hkn
  exact h.2.2 _ (nth_mem (by omega))
theorem before_bd {f : Flow} (h : checkE f = 0) {k : Nat} (hk : k ≤ f.lots.length) : 0 ≤ beforeI f k ∧ beforeI f k ≤ 50000 := by
  have h1 := checkE_ok h
  have h2 := beforeI_mono (f := f) (Nat.zero_le k)
  have h3 := beforeI_mono (f := f) hk
  simp only [beforeI] at h2
  omega

set_option maxHeartbeats 2000000 in
set_option maxRecDepth 100000 in
/-- frankingref28.Unknown -/
theorem unknown28_any (B : Nat) (w : World) (vs vl : Value) (f : Flow) (s : Int) (hf : IsFlow B w vs vl f) (hB : B ≤ w.heap.size) (h0 : checkE f = 0) :
    Calls Try.prog 100 #[.agg #[vs, vl], .int .i64 s] w fun e w' => e = .returned (.int .i64 (unkI f s)) ∧ Below w.heap.size w w' := by
  have HF := Lib.hid hf
  have hck := checkE_ok h0
  have HV := Lib.hid hck.2.2.2.2
  have HBF := Lib.hid (fun k (hk : k ≤ f.lots.length) => before_bd h0 hk)
  obtain ⟨hk1, hk2, hk3, hk4, _⟩ := hck
  clear h0 hk4
  obtain ⟨rfl, ⟨hs1, hs2⟩, hl⟩ := hf
  obtain ⟨b, off, cap, ⟨a, rfl, hcap, hmax, ha⟩, hlen, hc⟩ := hl
  have HC := Lib.hid hc
  have HA := Lib.hid ha
  clear hc ha
  have HX0 := Lib.hid (Box.new w #[.int .i64 f.senders, .slice a f.lots.length cap] 24)
  go_enter Try.func100, Try.ntmps100
  go_wp2
  go_loopw [1, 5] (fun vt vi wr => ∃ k : Nat, k ≤ f.lots.length ∧ vi = .int .i64 k ∧ vt = .int .i64 (spotAt f s k) ∧ unkTo f s k < 0 ∧ Box wr w.heap.size #[.int .i64 f.senders, .slice a f.lots.length cap] ∧ Below w.heap.size w wr) (fun _ vi _ => f.lots.length - (intOf vi).toNat)
  case atStart => exact ⟨0, by omega, rfl, rfl, by simp [unkTo], HX0.out, box_below' _ _⟩
  case round =>
    obtain ⟨k, hk, rfl, rfl, hu, hbx, hbr⟩ := hrel
    have HU := Lib.hid hu
    have HX := Lib.hid hbx
    have HBR := Lib.hid hbr
    clear hu hbr
    obtain ⟨z1, r1⟩ := hbx
    have r10 := r1 0
    have r11 := r1 1
    simp at r10 r11
    clear r1
    by_cases hlt : k < f.lots.length
    · obtain rfl : a = some ⟨b, off, none⟩ := by rcases HA.out with ha | ha; exact ha; omega
      obtain ⟨vi, vk, vp, hc1, hc2, hc3, hl1, rfl, hl3⟩ := HC.out k hlt
      have hbb : b < w.heap.size := by have := hc1.1; omega
      have c1 := (HBR.out.cell (p := ⟨b, off + k * 3, none⟩) hbb).trans hc1.2
      have c2 := (HBR.out.cell (p := ⟨b, off + k * 3 + 1, none⟩) hbb).trans hc2.2
      have c3 := (HBR.out.cell (p := ⟨b, off + k * 3 + 2, none⟩) hbb).trans hc3.2
      have HI := Lib.hid (hl1.below HBR.out hB)
      have HS1 : Hid (spotAt f s (k + 1) = if hasB (lotAt f.lots k).ins (spotAt f s k) then beforeI f k + nth (lotAt f.lots k).perm ((lotAt f.lots k).ins.idxOf (spotAt f s k)) else spotAt f s k) := Lib.hid rfl
      have HU1 : Hid (unkTo f s (k + 1) = if 0 ≤ unkTo f s k then unkTo f s k else if hasB (lotAt f.lots k).ins (spotAt f s k) && !(lotAt f.lots k).known then (k : Int) else -1) := Lib.hid rfl
      obtain ⟨bi, oi, ci, ⟨ai, rfl, _⟩, _⟩ := hl1
      obtain ⟨bp, op, cp, ⟨ap, rfl, hcp, hmp, hap⟩, hlp, hzp, hcc⟩ := hl3
      have HPC := Lib.hid hcc
      have HPL := Lib.hid (fun h => perm_len HV.out hlt h)
      have HPP := Lib.hid (fun i h hi => perm_lt (i := i) HV.out hlt h hi)
      clear hc1 hc2 hc3 hcc hzp
      cases hh : hasB (lotAt f.lots k).ins (spotAt f s k)
      · have HN := Lib.hid (idxI_none hh)
        rw [hh] at HS1 HU1
        clear hh
        go_wp2_with (go_at_call 85; refine (place_any _ _ _ _ _ HI.out).mono ?_; rintro e w5 ⟨rfl, rfl⟩; rw [HN.out])
        go_roundw
        case rel => exact ⟨k + 1, by omega, by go_num, by rw [HS1.out]; rfl, by rw [HU1.out, if_neg (Int.not_le.2 HU.out)]; simp, HX.out, HBR.out⟩
        case measure => simp [intOf]; omega
      · have HN := Lib.hid (idxI_in hh)
        rw [hh] at HS1 HU1
        clear hh
        obtain ⟨i, hi⟩ : ∃ i, (lotAt f.lots k).ins.idxOf (spotAt f s k) = i := ⟨_, rfl⟩
        rw [hi] at HN HS1
        clear hi
        have g0 : decide ((0 : Int) ≤ (i : Int)) = true := decide_eq_true (by omega)
        cases hkn : (lotAt f.lots k).known
        · rw [hkn] at HU1 c2
          have HT : Hid (unkI f s = k) := Lib.hid (by
            unfold unkI
            rw [unkTo_stay (k := k + 1) (by rw [HU1.out, if_neg (Int.not_le.2 HU.out)]; simp) (by omega), HU1.out, if_neg (Int.not_le.2 HU.out)]; rfl)
          clear hkn
          go_wp2_with (go_at_call 85; refine (place_any _ _ _ _ _ HI.out).mono ?_; rintro e w5 ⟨rfl, rfl⟩; rw [HN.out.1])
          go_ret
          exact ⟨by rw [HT.out]; rfl, HBR.out⟩
        · rw [hkn] at HU1 c2
          have hil : i < (lotAt f.lots k).perm.length := by rw [HPL.out hkn]; exact HN.out.2
          have hpp := HPP.out i hkn HN.out.2
          have hbf := HBF.out k hk
          have hbf1 := HBF.out (k + 1) (by omega)
          simp only [beforeI] at hbf1
          obtain rfl : ap = some ⟨bp, op, none⟩ := by rcases hap with ha | ha; exact ha; omega
          have c4 := (HBR.out.cell (p := ⟨bp, op + i, none⟩) (by have := (HPC.out i hil).1; show bp < _; omega)).trans (HPC.out i hil).2
          have hbp : bp < wr.heap.size := by have := (HPC.out i hil).1; have := HBR.out.size; omega
          have hbb' : b < wr.heap.size := by have := HBR.out.size; omega
          obtain ⟨pv, hpv⟩ : ∃ x, nth (lotAt f.lots k).perm i = x := ⟨_, rfl⟩
          obtain ⟨bv, hbv⟩ : ∃ x, beforeI f k = x := ⟨_, rfl⟩
          have HBV := Lib.hid hbv
          obtain ⟨np, hnp⟩ : ∃ n, (lotAt f.lots k).perm.length = n := ⟨_, rfl⟩
          obtain ⟨ni, hni⟩ : ∃ n, (lotAt f.lots k).ins.length = n := ⟨_, rfl⟩
          rw [hnp] at hil c3 hcp
          rw [hni] at hpp hbf1
          rw [hpv] at hpp c4 HS1
          rw [hbv] at hbf hbf1 HS1
          have hw1 : IntKind.i64.wrap (bv + pv) = bv + pv := by rw [IntWalk.i64_in _ (by omega)]
          have hi0 : (0 : Int) ≤ (i : Int) := Int.natCast_nonneg _
          have hi1 : (i : Int) < (np : Int) := by omega
          have hk0 : (0 : Int) ≤ (k : Int) := Int.natCast_nonneg _
          have hk1' : (k : Int) < (f.lots.length : Int) := by omega
          have HKP : Hid (∀ W, Below wr.heap.size wr W → W.cell? ⟨w.heap.size, 0, none⟩ = some (.int .i64 f.senders) ∧ W.cell? ⟨w.heap.size, 1, none⟩ = some (.slice (some ⟨b, off, none⟩) f.lots.length cap) ∧
              W.cell? ⟨b, off + k * 3 + 2, none⟩ = some (.slice (some ⟨bp, op, none⟩) np cp) ∧ W.cell? ⟨bp, op + i, none⟩ = some (.int .i64 pv) ∧ Below wr.heap.size wr W) := Lib.hid fun W hW =>
            ⟨(hW.cell (p := ⟨w.heap.size, 0, none⟩) z1).trans r10, (hW.cell (p := ⟨w.heap.size, 1, none⟩) z1).trans r11, (hW.cell (p := ⟨b, off + k * 3 + 2, none⟩) hbb').trans c3, (hW.cell (p := ⟨bp, op + i, none⟩) hbp).trans c4, hW⟩
          have HDR : Hid (Below wr.heap.size wr wr.drew) := Lib.hid (Below.refl _ _).drew
          have HP : Hid (∀ W, Below wr.heap.size wr W → IsFlow B W (.int .i64 f.senders) (.slice (some ⟨b, off, none⟩) f.lots.length cap) f ∧ B ≤ W.heap.size) := Lib.hid fun W hW => ⟨HF.out.below (HBR.out.trans (hW.mono HBR.out.size)) hB, by have := HBR.out.size; have := hW.size; omega⟩
          have hk2000 : k ≤ 2000 := by omega
          clear hpv hbv hnp hni hkn hap
          go_wp2_with (go_at_call 85; refine (place_any _ _ _ _ _ HI.out).mono ?_; rintro e w5 ⟨rfl, rfl⟩; rw [HN.out.1])
          go_region_held3 (fun W => W.cell? ⟨w.heap.size, 0, none⟩ = some (.int .i64 f.senders) ∧ W.cell? ⟨w.heap.size, 1, none⟩ = some (.slice (some ⟨b, off, none⟩) f.lots.length cap) ∧
              W.cell? ⟨b, off + k * 3 + 2, none⟩ = some (.slice (some ⟨bp, op, none⟩) np cp) ∧ W.cell? ⟨bp, op + i, none⟩ = some (.int .i64 pv) ∧ Below w5.heap.size w5 W) (first | exact HKP.out _ HDR.out | exact HKP.out _ (by assumption))
            (first | (go_at_call 43; refine (before_any B _ _ _ f k (HP.out _ (by assumption)).1 (HP.out _ (by assumption)).2 hk hk2000 hk2).mono ?_; rintro e w6 ⟨rfl, hb6⟩; rw [HBV.out]; have hb7 := (‹Below w5.heap.size w5 _›).trans (hb6.mono (‹Below w5.heap.size w5 _›).size)))
          have hb7 : Below w5.heap.size w5 w6 := by assumption
          have HB7 := Lib.hid hb7
          go_wp2
          go_roundw
          case rel => exact ⟨k + 1, by omega, by go_num, by rw [HS1.out]; simp, by rw [HU1.out, if_neg (Int.not_le.2 HU.out)]; simp, HX.out.ext HB7.out, HBR.out.trans (HB7.out.mono HBR.out.size)⟩
          case measure => simp [intOf]; omega
    · obtain rfl : k = f.lots.length := by omega
      have HT : Hid (unkI f s = -1) := Lib.hid (by have := unkTo_lt f s f.lots.length; have := HU.out; unfold unkI; omega)
      go_wp2
      go_ret
      exact ⟨by rw [HT.out]; rfl, HBR.out⟩

end Go.Proofs.Ytndcbnnbgedgcaa

/-
  The walks of frankingref28.last, first, Last, First.
-/
set_option linter.unusedVariables false
set_option linter.unusedSimpArgs false
namespace Go.Proofs.Ytndcbnnbgedgcaa
open Go.RowKit

theorem lastTo_false {f : Flow} {k i m : Nat} (h : lastTo f k i = false) (hm : i ≤ m) : lastTo f k m = false := by
  induction hm with
  | refl => exact h
  | step _ ih => simp [lastTo, ih]
theorem comesTo_true {f : Flow} {m k i n : Nat} (h : comesTo f m k i = true) (hn : i ≤ n) : comesTo f m k n = true := by
  induction hn with
  | refl => exact h
  | step _ ih => simp [comesTo, ih]
theorem hitTo_true {f : Flow} {m k n : Nat} (h : hitTo f m k = true) (hn : k ≤ n) : hitTo f m n = true := by
  induction hn with
  | refl => exact h
  | step _ ih => simp [hitTo, ih]

set_option maxHeartbeats 2000000 in
set_option maxRecDepth 100000 in
/-- frankingref28.last -/
theorem last28_any (B : Nat) (w : World) (vs vl : Value) (f : Flow) (k : Nat) (hf : IsFlow B w vs vl f) (hB : B ≤ w.heap.size) (h0 : checkE f = 0) (hk : k < f.lots.length) :
    Calls Try.prog 87 #[.agg #[vs, vl], .int .i64 k] w fun e w' => e = .returned (.bool (lastB f k)) ∧ Below w.heap.size w w' := by
  have HF := Lib.hid hf
  have H0 := Lib.hid h0
  have hck := checkE_ok h0
  have hbf := before_bd h0 (show k + 1 ≤ f.lots.length by omega)
  have hbf0 := before_bd h0 (show k ≤ f.lots.length by omega)
  simp only [beforeI] at hbf
  obtain ⟨hk1, hk2, hk3, hk4, _⟩ := hck
  clear h0 hk4
  obtain ⟨rfl, ⟨hs1, hs2⟩, hl⟩ := hf
  obtain ⟨b, off, cap, ⟨a, rfl, hcap, hmax, ha⟩, hlen, hc⟩ := hl
  obtain rfl : a = some ⟨b, off, none⟩ := by rcases ha with ha | ha; exact ha; omega
  obtain ⟨vi, vk, vp, hc1, hc2, hc3, hl1, rfl, hl3⟩ := hc k hk
  obtain ⟨bi, oi, ci, ⟨ai, rfl, _⟩, _⟩ := hl1
  have hbb : b < w.heap.size := by have := hc1.1; omega
  have HC1 := Lib.hid hc1.2
  have HL : Hid (lastB f k = lastTo f k (lotAt f.lots k).ins.length) := Lib.hid rfl
  obtain ⟨n, hn⟩ : ∃ n, (lotAt f.lots k).ins.length = n := ⟨_, rfl⟩
  rw [hn] at HC1 HL hbf
  obtain ⟨bv, hbv⟩ : ∃ n, beforeI f k = n := ⟨_, rfl⟩
  have HBV := Lib.hid hbv
  rw [hbv] at hbf hbf0
  clear hc ha hc1 hc2 hc3 hl3 hn hbv
  have HX0 := Lib.hid (Box.new w #[.int .i64 f.senders, .slice (some ⟨b, off, none⟩) f.lots.length cap] 24)
  go_enter Try.func87, Try.ntmps87
  go_wp2_with fail
  refine (before_any B (w.alloc _) _ _ f k (HF.out.below (box_below hB _) (Nat.le_refl _)) (by simp; omega) (by omega) (by omega) (by omega)).mono ?_
  rintro e w3 ⟨rfl, hb3⟩
  rw [HBV.out]
  have HX3 := Lib.hid (HX0.out.ext hb3)
  have HW3 : Hid (Below w.heap.size w w3) := Lib.hid ((box_below' w _).trans (hb3.mono (by simp)))
  clear hb3
  go_wp2
  go_loopw [6] (fun vi wr => ∃ i : Nat, i ≤ n ∧ vi = .int .i64 i ∧ lastTo f k i = true ∧ Box wr w.heap.size #[.int .i64 f.senders, .slice (some ⟨b, off, none⟩) f.lots.length cap] ∧ Below w.heap.size w wr) (fun vi _ => n - (intOf vi).toNat)
  case atStart => exact ⟨0, by omega, rfl, rfl, HX3.out, HW3.out⟩
  case round =>
    obtain ⟨i, hi, rfl, hu, hbx, hbr⟩ := hrel
    have HU := Lib.hid hu
    have HX := Lib.hid hbx
    have HBR := Lib.hid hbr
    clear hu hbr
    obtain ⟨z1, r1⟩ := hbx
    have r10 := r1 0
    have r11 := r1 1
    simp at r10 r11
    clear r1
    have c1 := (HBR.out.cell (p := ⟨b, off + k * 3, none⟩) hbb).trans HC1.out
    by_cases hlt : i < n
    · have HS : Hid (lastTo f k (i + 1) = (lastTo f k i && decide (unkI f (bv + i) < 0))) := Lib.hid (by rw [← HBV.out]; rfl)
      by_cases hu : unkI f (bv + i) < 0
      · have HS2 : Hid (lastTo f k (i + 1) = true) := Lib.hid (by rw [HS.out, HU.out, decide_eq_true hu]; rfl)
        go_wp2_with fail
        refine (unknown28_any B wr _ _ f _ (HF.out.below HBR.out hB) (by have := HBR.out.size; omega) H0.out).mono ?_
        rintro e w5 ⟨rfl, hb5⟩
        have HB5 := Lib.hid hb5
        clear hb5
        go_wp2
        go_roundw
        case rel => exact ⟨i + 1, by omega, by go_num, HS2.out, HX.out.ext HB5.out, HBR.out.trans (HB5.out.mono HBR.out.size)⟩
        case measure => simp [intOf]; omega
      · have HS2 : Hid (lastB f k = false) := Lib.hid (by rw [HL.out]; exact lastTo_false (i := i + 1) (by rw [HS.out, decide_eq_false hu]; simp) (by omega))
        go_wp2_with fail
        refine (unknown28_any B wr _ _ f _ (HF.out.below HBR.out hB) (by have := HBR.out.size; omega) H0.out).mono ?_
        rintro e w5 ⟨rfl, hb5⟩
        have HB5 := Lib.hid hb5
        clear hb5
        go_wp2
        go_ret
        exact ⟨by rw [HS2.out]; rfl, HBR.out.trans (HB5.out.mono HBR.out.size)⟩
    · obtain rfl : i = n := by omega
      go_wp2
      go_ret
      exact ⟨by rw [HL.out, HU.out]; rfl, HBR.out⟩

set_option maxHeartbeats 2000000 in
set_option maxRecDepth 100000 in
/-- frankingref28.first -/
theorem first28_any (B : Nat) (w : World) (vs vl : Value) (f : Flow) (m : Nat) (hf : IsFlow B w vs vl f) (hB : B ≤ w.heap.size) (h0 : checkE f = 0) (hm : m < f.lots.length) :
    Calls Try.prog 88 #[.agg #[vs, vl], .int .i64 m] w fun e w' => e = .returned (.bool (firstB f m)) ∧ Below w.heap.size w w' := by
  have HF := Lib.hid hf
  have H0 := Lib.hid h0
  have hck := checkE_ok h0
  obtain ⟨hk1, hk2, hk3, hk4, _⟩ := hck
  clear h0 hk4
  obtain ⟨rfl, ⟨hs1, hs2⟩, hl⟩ := hf
  obtain ⟨b, off, cap, ⟨a, rfl, hcap, hmax, ha⟩, hlen, hc⟩ := hl
  obtain rfl : a = some ⟨b, off, none⟩ := by rcases ha with ha | ha; exact ha; omega
  have HC := Lib.hid hc
  have HFB : Hid (firstB f m = !hitTo f m m) := Lib.hid rfl
  clear hc ha
  have HX0 := Lib.hid (Box.new w #[.int .i64 f.senders, .slice (some ⟨b, off, none⟩) f.lots.length cap] 24)
  go_enter Try.func88, Try.ntmps88
  go_wp2
  go_loopw [5] (fun vi wr => ∃ k : Nat, k ≤ m ∧ vi = .int .i64 k ∧ hitTo f m k = false ∧ Box wr w.heap.size #[.int .i64 f.senders, .slice (some ⟨b, off, none⟩) f.lots.length cap] ∧ Below w.heap.size w wr) (fun vi _ => m - (intOf vi).toNat)
  case atStart => exact ⟨0, by omega, rfl, rfl, HX0.out, box_below' _ _⟩
  case round =>
    obtain ⟨k, hk, rfl, hu, hbx, hbr⟩ := hrel
    have HU := Lib.hid hu
    have HX := Lib.hid hbx
    have HBR := Lib.hid hbr
    clear hu hbr
    obtain ⟨z1, r1⟩ := hbx
    have r10 := r1 0
    have r11 := r1 1
    simp at r10 r11
    clear r1
    by_cases hlt : k < m
    · obtain ⟨vi, vk, vp, hc1, hc2, hc3, hl1, rfl, hl3⟩ := HC.out k (by omega)
      obtain ⟨bi, oi, ci, ⟨ai, rfl, _⟩, _⟩ := hl1
      have hbb : b < w.heap.size := by have := hc1.1; omega
      have HC1 := Lib.hid hc1.2
      have HC2 := Lib.hid hc2.2
      have HS : Hid (hitTo f m (k + 1) = (hitTo f m k || (!(lotAt f.lots k).known && comesTo f m k (lotAt f.lots k).ins.length))) := Lib.hid rfl
      have hbf := before_bd H0.out (show k + 1 ≤ f.lots.length by omega)
      have hbf0 := before_bd H0.out (show k ≤ f.lots.length by omega)
      simp only [beforeI] at hbf
      obtain ⟨n, hn⟩ : ∃ n, (lotAt f.lots k).ins.length = n := ⟨_, rfl⟩
      obtain ⟨kn, hkn⟩ : ∃ n, (lotAt f.lots k).known = n := ⟨_, rfl⟩
      obtain ⟨bv, hbv⟩ : ∃ n, beforeI f k = n := ⟨_, rfl⟩
      rw [hn] at HC1 HS hbf
      rw [hkn] at HC2 HS
      have HBV := Lib.hid hbv
      rw [hbv] at hbf hbf0
      clear hc1 hc2 hc3 hl3 hn hkn hbv
      go_wp2_with fail
      refine (before_any B wr _ _ f k (HF.out.below HBR.out hB) (by have := HBR.out.size; omega) (by omega) (by omega) (by omega)).mono ?_
      rintro e w3 ⟨rfl, hb3⟩
      rw [HBV.out]
      have HX3 := Lib.hid (HX.out.ext hb3)
      have HW3 : Hid (Below w.heap.size w w3) := Lib.hid (HBR.out.trans (hb3.mono HBR.out.size))
      clear hb3 z1 r10 r11
      go_wp2
      go_loopw [7] (fun vi wr => ∃ i : Nat, i ≤ n ∧ vi = .int .i64 i ∧ (i = 0 ∨ kn = false) ∧ comesTo f m k i = false ∧ Box wr w.heap.size #[.int .i64 f.senders, .slice (some ⟨b, off, none⟩) f.lots.length cap] ∧ Below w.heap.size w wr) (fun vi _ => n - (intOf vi).toNat)
      case atStart => exact ⟨0, by omega, rfl, Or.inl rfl, rfl, HX3.out, HW3.out⟩
      case round =>
        obtain ⟨i, hi, rfl, hor, hu, hbx, hbr⟩ := hrel
        have HOR := Lib.hid hor
        have HUI := Lib.hid hu
        have HX := Lib.hid hbx
        have HBR := Lib.hid hbr
        clear hu hbr hor
        obtain ⟨z1, r1⟩ := hbx
        have r10 := r1 0
        have r11 := r1 1
        simp at r10 r11
        clear r1
        have c1 := (HBR.out.cell (p := ⟨b, off + k * 3, none⟩) hbb).trans HC1.out
        have c2 := (HBR.out.cell (p := ⟨b, off + k * 3 + 1, none⟩) hbb).trans HC2.out
        by_cases hin : i < n
        · cases kn
          · have HS2 : Hid (comesTo f m k (i + 1) = (comesTo f m k i || (unkI f (bv + i) == (m : Int)))) := Lib.hid (by rw [← HBV.out]; rfl)
            cases hq : (unkI f (bv + i) == (m : Int))
            · have HS3 : Hid (comesTo f m k (i + 1) = false) := Lib.hid (by rw [HS2.out, HUI.out, hq]; rfl)
              go_wp2_with fail
              refine (unknown28_any B wr _ _ f _ (HF.out.below HBR.out hB) (by have := HBR.out.size; omega) H0.out).mono ?_
              rintro e w5 ⟨rfl, hb5⟩
              have HB5 := Lib.hid hb5
              clear hb5
              go_wp2
              go_roundw
              case rel => exact ⟨i + 1, by omega, by go_num, by simp, HS3.out, HX.out.ext HB5.out, HBR.out.trans (HB5.out.mono HBR.out.size)⟩
              case measure => simp [intOf]; omega
            · have HS3 : Hid (firstB f m = false) := Lib.hid (by
                rw [HFB.out, hitTo_true (k := k + 1) (n := m) (by rw [HS.out, comesTo_true (i := i + 1) (n := n) (by rw [HS2.out, hq]; simp) (by omega)]; simp) (by omega)]; rfl)
              go_wp2_with fail
              refine (unknown28_any B wr _ _ f _ (HF.out.below HBR.out hB) (by have := HBR.out.size; omega) H0.out).mono ?_
              rintro e w5 ⟨rfl, hb5⟩
              have HB5 := Lib.hid hb5
              clear hb5
              go_wp2
              go_ret
              exact ⟨by rw [HS3.out]; rfl, HBR.out.trans (HB5.out.mono HBR.out.size)⟩
          · have HS3 : Hid (hitTo f m (k + 1) = false) := Lib.hid (by rw [HS.out, HU.out]; rfl)
            go_wp2
            go_roundw
            case rel => exact ⟨k + 1, by omega, by go_num, HS3.out, HX.out, HBR.out⟩
            case measure => simp [intOf]; omega
        · obtain rfl : i = n := by omega
          have HS3 : Hid (hitTo f m (k + 1) = false) := Lib.hid (by rw [HS.out, HU.out, HUI.out]; simp)
          go_wp2
          go_roundw
          case rel => exact ⟨k + 1, by omega, by go_num, HS3.out, HX.out, HBR.out⟩
          case measure => simp [intOf]; omega
    · obtain rfl : k = m := by omega
      have HT : Hid (firstB f k = true) := Lib.hid (by rw [HFB.out, HU.out]; rfl)
      go_wp2
      go_ret
      exact ⟨by rw [HT.out]; rfl, HBR.out⟩

end Go.Proofs.Ytndcbnnbgedgcaa

/-
  Loops over maps whose keys are of type int: whatever the order, each pair comes out once.
-/
set_option linter.unusedVariables false
set_option linter.unusedSimpArgs false
namespace Go.Proofs.Ytndcbnnbgedgcaa
open Go.RowKit Go.MapKept

/-- block r goes over the map in block bm, which holds the pairs l; the pairs left are still to come -/
def MapIter (w : World) (bm r : Nat) (l left : AL) : Prop :=
  ∃ es c seen c0, w.heap[bm]? = some (.map es c) ∧ w.heap[r]? = some (.mapIter (some bm) c seen c0) ∧ Stamped es c ∧ c ≤ c0 ∧ es.toList.map (fun e => (e.key, e.val)) = l.map (fun p => (Value.int .i64 p.1, p.2)) ∧
    (leftOf es seen).toList.map (fun e => (e.key, e.val)) = left.map (fun p => (Value.int .i64 p.1, p.2))
theorem MapIter.kept {w w' : World} {bm r : Nat} {l left : AL} {row : Option Nat} (h : MapIter w bm r l left) (hg : w.grownBy w' row) (h1 : some bm ≠ row) (h2 : some r ≠ row) : MapIter w' bm r l left := by
  obtain ⟨es, c, seen, c0, a, b, rest⟩ := h
  exact ⟨es, c, seen, c0, (hg.block bm (Array.getElem?_eq_some_iff.1 a).1 h1).trans a, (hg.block r (Array.getElem?_eq_some_iff.1 b).1 h2).trans b, rest⟩
theorem MapIter.below {w w' : World} {bm r : Nat} {l left : AL} (h : MapIter w bm r l left) (hb : Below w.heap.size w w') : MapIter w' bm r l left :=
  h.kept (row := none) ⟨hb.os, hb.tape, hb.output, hb.size, fun k hk _ => hb.block k hk⟩ (by simp) (by simp)
theorem MapIter.alloc {w : World} {bm r : Nat} {l left : AL} (h : MapIter w bm r l left) (o : Obj) : MapIter (w.alloc o) bm r l left := h.below (box_below' w o)
theorem MapIter.map {w : World} {bm r : Nat} {l left : AL} (h : MapIter w bm r l left) : IntMap w bm l := by
  obtain ⟨es, c, seen, c0, a, b, d, e, f, g⟩ := h
  exact ⟨es, c, a, d, f⟩
theorem MapIter.lt {w : World} {bm r : Nat} {l left : AL} (h : MapIter w bm r l left) : bm < w.heap.size ∧ r < w.heap.size := by
  obtain ⟨es, c, seen, c0, a, b, _⟩ := h
  exact ⟨(Array.getElem?_eq_some_iff.1 a).1, (Array.getElem?_eq_some_iff.1 b).1⟩

theorem left_push (es : Array MapEntry) (seen : Array Nat) (b : Nat) : (leftOf es (seen.push b)).toList = (leftOf es seen).toList.filter (fun e => e.born != b) := by
  unfold leftOf
  simp only [Array.toList_filter, List.filter_filter]
  congr 1
  funext e
  rw [contains_push]
  rw [Bool.eq_iff_iff]
  simp only [Bool.not_eq_true', Bool.or_eq_false_iff, Bool.and_eq_true, bne_iff_ne, ne_eq, beq_eq_false_iff_ne, Bool.not_eq_eq_eq_not, Bool.not_true]
  constructor
  · rintro ⟨h1, h2⟩; exact ⟨h2, h1⟩
  · rintro ⟨h1, h2⟩; exact ⟨h2, h1⟩
theorem filter_out {l : List MapEntry} {e : MapEntry} (he : e ∈ l) (hn : (l.map (·.born)).Nodup) : ∃ A B, l = A ++ e :: B ∧ l.filter (fun x => x.born != e.born) = A ++ B := by
  obtain ⟨A, B, rfl⟩ := List.append_of_mem he
  refine ⟨A, B, rfl, ?_⟩
  rw [List.map_append, List.map_cons, List.nodup_append] at hn
  obtain ⟨h1, h2, h3⟩ := hn
  rw [List.nodup_cons] at h2
  rw [List.filter_append, List.filter_cons]
  simp only [bne_self_eq_false, Bool.false_eq_true, if_false]
  congr 1
  · rw [List.filter_eq_self]
    intro x hx
    simp only [bne_iff_ne, ne_eq]
    exact h3 _ (List.mem_map_of_mem hx) _ (by simp)
  · rw [List.filter_eq_self]
    intro x hx
    simp only [bne_iff_ne, ne_eq]
    intro e'
    exact h2.1 (e' ▸ List.mem_map_of_mem hx)
theorem map_split {α β : Type} {f : α → β} {γ : Type} {g : γ → β} : ∀ {A : List α} {e : α} {B : List α} {L : List γ}, (A ++ e :: B).map f = L.map g → ∃ A' p B', L = A' ++ p :: B' ∧ f e = g p ∧ (A ++ B).map f = (A' ++ B').map g
  | [], e, B, L, h => by
    cases L with
    | nil => simp at h
    | cons p L' =>
      simp only [List.nil_append, List.map_cons, List.cons.injEq] at h
      exact ⟨[], p, L', rfl, h.1, by simpa using h.2⟩
  | a :: A, e, B, L, h => by
    cases L with
    | nil => simp at h
    | cons p L' =>
      simp only [List.cons_append, List.map_cons, List.cons.injEq] at h
      obtain ⟨A', q, B', h1, h2, h3⟩ := map_split h.2
      refine ⟨p :: A', q, B', by rw [h1]; rfl, h2, ?_⟩
      simp only [List.cons_append, List.map_cons, h.1, h3]

section
variable {P : Program} {w : World} {ops : Array Oper} {rest : List Oper} {o : Oper} {a : Act} {Q : Exit → Act → World → Prop}

theorem grown_drew (w : World) (row : Option Nat) : w.grownBy w.drew row := ⟨rfl, rfl, rfl, Nat.le_refl _, fun _ _ _ => rfl⟩

theorem wpList_range_ints {T K E : TypeId} {bm : Nat} {l : AL} (hg : Region.wanted o (yielded ops a.tmps) = true) (m : Operand) (hop : o.op = Op.range T m) (hT : P.underlying T = some (.map K E)) (hm : a.eval m = .map (some bm)) (h : IntMap w bm l)
    (hk : ∀ w', MapIter w' bm w.heap.size l l → Below w.heap.size w w' → w'.heap.size = w.heap.size + 1 → wpList P ops Q rest (a.put o.dst (.pointer (some ⟨w.heap.size, 0, none⟩))) w') : wpList P ops Q (o :: rest) a w := by
  refine wpList_want hg fun K' hK' => ?_
  obtain ⟨es, c, hb, hs, he⟩ := h
  have hrun := run_range_map (P := P) w T K E bm es c hT hb
  unfold Oper.wp
  simp [execOp, hop, hm, hrun, Result.andThen]
  refine hK' _ _ (hk _ ?_ (box_below' _ _) (by simp))
  have hlt := (Array.getElem?_eq_some_iff.1 hb).1
  refine ⟨es, c, #[], c, (Below.heap_alloc w _ bm hlt).trans hb, heap_alloc_new w _, hs, Nat.le_refl _, he, ?_⟩
  have : leftOf es #[] = es := by unfold leftOf; simp
  rw [this, he]

theorem wpList_next_ints {bm r : Nat} {l left : AL} (hg : Region.wanted o (yielded ops a.tmps) = true) (it : Operand) (hop : o.op = Op.next it false) (hit : a.eval it = .pointer (some ⟨r, 0, none⟩)) (h : MapIter w bm r l left) (hne : r ≠ bm)
    (hDone : left = [] → wpList P ops Q rest (a.put o.dst (.tuple #[.bool false])) w)
    (hMore : ∀ (A : AL) (x : Int) (v : Value) (B : AL) (w' : World), left = A ++ (x, v) :: B → MapIter w' bm r l (A ++ B) → w.grownBy w' (some r) → w'.heap.size = w.heap.size →
      (Instr.entry (.pointer (some ⟨r, 0, none⟩))).run P w' = .ok (.tuple #[.int .i64 x, v]) w' → wpList P ops Q rest (a.put o.dst (.tuple #[.bool true, .int .i64 x, v])) w') : wpList P ops Q (o :: rest) a w := by
  refine wpList_want hg fun K' hK' => ?_
  obtain ⟨es, c, seen, c0, hb, hr, hs, hc, he, hl⟩ := h
  unfold Oper.wp
  rcases run_next_at (P := P) w o.type r bm c c0 seen es c hr hb hs.1 hc with ⟨h0, hrun⟩ | ⟨e, hm, w1, hw1, hrun⟩
  · simp [execOp, hop, hit, hrun, Result.andThen]
    refine hK' _ _ (hDone ?_)
    have : (leftOf es seen).toList = [] := List.eq_nil_of_length_eq_zero (by simpa using h0)
    rw [this] at hl
    simpa using hl.symm
  · have hml := mem_left hm
    have hnd : ((leftOf es seen).toList.map (·.born)).Nodup := by
      unfold leftOf
      rw [Array.toList_filter]
      exact List.Nodup.sublist (List.Sublist.map _ List.filter_sublist) hs.2.1
    obtain ⟨A, B, hAB, hfo⟩ := filter_out hm hnd
    rw [hAB] at hl
    obtain ⟨A', p, B', hL, hp, hAB'⟩ := map_split hl
    obtain ⟨x, v⟩ := p
    simp only [Prod.mk.injEq] at hp
    have hlr := (Array.getElem?_eq_some_iff.1 hr).1
    have hw1s : w1.heap = w.heap := by rcases hw1 with rfl | rfl <;> rfl
    have hg1 : w.grownBy w1 (some r) := by rcases hw1 with rfl | rfl; exact grown_refl _ _; exact grown_drew _ _
    have hg2 : w1.grownBy (Go.ChangeMaps.setBlock w1 r (.mapIter (some bm) c (seen.push e.born) c)) (some r) := by
      refine ⟨rfl, rfl, rfl, by simp [Go.ChangeMaps.setBlock], fun k hk hne => ?_⟩
      simp only [Go.ChangeMaps.setBlock]
      rw [Array.getElem?_setIfInBounds_ne]
      intro e; exact hne (by rw [e])
    have hgw := grown_trans hg1 hg2
    have hsz : (Go.ChangeMaps.setBlock w1 r (.mapIter (some bm) c (seen.push e.born) c)).heap.size = w.heap.size := by simp [Go.ChangeMaps.setBlock, hw1s]
    have hr' : (Go.ChangeMaps.setBlock w1 r (.mapIter (some bm) c (seen.push e.born) c)).heap[r]? = some (.mapIter (some bm) c (seen.push e.born) c) := by
      simp only [Go.ChangeMaps.setBlock, hw1s]
      rw [Array.getElem?_setIfInBounds_self_of_lt hlr]
    have hb' : (Go.ChangeMaps.setBlock w1 r (.mapIter (some bm) c (seen.push e.born) c)).heap[bm]? = some (.map es c) :=
      (hgw.block bm (Array.getElem?_eq_some_iff.1 hb).1 (by simpa using fun e => hne e.symm)).trans hb
    have hen := run_entry_at (P := P) _ r bm c seen es c e hr' hb' hml.1 hs.2.1
    rw [hp.1, hp.2] at hen
    simp [execOp, hop, hit, hrun, Result.andThen]
    rw [hp.1, hp.2]
    refine hK' _ _ (hMore A' x v B' _ hL ⟨es, c, seen.push e.born, c, hb', hr', hs, Nat.le_refl _, he, ?_⟩ hgw hsz hen)
    rw [left_push, hfo, hAB']
end

end Go.Proofs.Ytndcbnnbgedgcaa

/-
  Layer 28, in plain Lean: how many ways there are for all senders to have ends of their own.
-/
set_option linter.unusedVariables false
set_option linter.unusedSimpArgs false
namespace Go.Proofs.Ytndcbnnbgedgcaa

/-! ### as many ends as senders -/
theorem goneL_len (f : Flow) : ∀ k, f.senders + ((goneL f k).length : Int) = beforeI f k
  | 0 => by simp [goneL, beforeI]
  | k + 1 => by
    have := goneL_len f k
    simp only [goneL, beforeI, List.length_append]
    omega
theorem goneL_nodup {f : Flow} {m : Nat} (h : lotsB f m = true) : ∀ k, k ≤ m → (goneL f k).Nodup
  | 0, _ => by simp [goneL]
  | k + 1, hk => by
    simp only [goneL]
    rw [List.nodup_append]
    refine ⟨goneL_nodup h k (by omega), (lotB_facts (lotsB_lot h (show k < m by omega))).1, fun x hx y hy e => ?_⟩
    subst e
    have h1 := (ins_lt h (show k < m by omega) (hasB_iff.2 hy)).2.2
    rw [← hasB_goneL, hasB_iff.2 hx] at h1
    cases h1
theorem goneL_in {f : Flow} {m : Nat} (h : lotsB f m = true) : ∀ k, k ≤ m → ∀ x ∈ goneL f k, 0 ≤ x ∧ x < beforeI f k
  | 0, _, x, hx => by simp [goneL] at hx
  | k + 1, hk, x, hx => by
    simp only [goneL] at hx
    simp only [beforeI]
    rcases List.mem_append.1 hx with hx | hx
    · have := goneL_in h k (by omega) x hx; omega
    · have := ins_lt h (show k < m by omega) (hasB_iff.2 hx); omega
def upL : Nat → List Int
  | 0 => []
  | n + 1 => upL n ++ [(n : Int)]
theorem upL_len : ∀ n, (upL n).length = n
  | 0 => rfl
  | n + 1 => by simp [upL, upL_len n]
theorem upL_mem (x : Int) : ∀ n, x ∈ upL n ↔ 0 ≤ x ∧ x < n
  | 0 => by simp [upL]
  | n + 1 => by simp only [upL, List.mem_append, upL_mem x n, List.mem_singleton]; omega
theorem upL_nodup : ∀ n, (upL n).Nodup
  | 0 => by simp [upL]
  | n + 1 => by
    simp only [upL]
    rw [List.nodup_append]
    refine ⟨upL_nodup n, by simp, fun x hx y hy e => ?_⟩
    have := (upL_mem x n).1 hx
    simp at hy
    omega
theorem ends_count {f : Flow} (h : checkE f = 0) : ((endsL f).length : Int) = f.senders := by
  have hc := checkE_ok h
  have hg := goneL_len f f.lots.length
  have h0 := beforeI_mono (f := f) (Nat.zero_le f.lots.length)
  simp only [beforeI] at h0
  have hn : (endsL f ++ goneL f f.lots.length).Nodup := by
    rw [List.nodup_append]
    refine ⟨endsTo_nodup f _, goneL_nodup hc.2.2.2.2 _ (Nat.le_refl _), fun x hx y hy e => ?_⟩
    subst e
    have h1 := ((endsTo_mem f x _).1 hx).2.2
    rw [← hasB_goneL, hasB_iff.2 hy] at h1
    cases h1
  have h1 := inj_len (fun y => y) _ (upL (beforeI f f.lots.length).toNat) hn (fun _ _ _ _ h => h) (fun x hx => by
    rw [upL_mem]
    rcases List.mem_append.1 hx with hx | hx
    · have := (endsTo_mem f x _).1 hx; omega
    · have := goneL_in hc.2.2.2.2 _ (Nat.le_refl _) x hx; omega)
  have h2 := inj_len (fun y => y) (upL (beforeI f f.lots.length).toNat) (endsL f ++ goneL f f.lots.length) (upL_nodup _) (fun _ _ _ _ h => h) (fun x hx => by
    have hx := (upL_mem x _).1 hx
    rw [List.mem_append]
    cases hgo : goneB f x f.lots.length
    · left
      unfold endsL
      rw [endsTo_mem]
      exact ⟨hx.1, hx.2, hgo⟩
    · right
      rw [← hasB_goneL] at hgo
      exact hasB_iff.1 hgo)
  rw [upL_len, List.length_append] at h1 h2
  omega

/-! ### ways -/
def waysS : List (List Int) → List Int → Int
  | [], _ => 1
  | row :: rest, used => (row.map fun x => if hasB used x then 0 else waysS rest (used ++ [x])).sum
theorem sum_bd {g : Int → Int} {c : Int} : ∀ {l : List Int}, (∀ x ∈ l, 0 ≤ g x ∧ g x ≤ c) → 0 ≤ (l.map g).sum ∧ (l.map g).sum ≤ l.length * c
  | [], _ => by simp
  | x :: r, h => by
    have ih := sum_bd (l := r) (fun y hy => h y (by simp [hy]))
    have hx := h x (by simp)
    simp only [List.map_cons, List.sum_cons, List.length_cons]
    have : ((r.length + 1 : Nat) : Int) * c = r.length * c + c := by rw [Int.natCast_add, Int.add_mul]; simp
    omega
theorem pow6_pos (n : Nat) : (1 : Int) ≤ 6 ^ n := by
  induction n with
  | zero => simp
  | succ n ih => rw [Int.pow_succ]; omega
theorem waysS_bd : ∀ (rows : List (List Int)) (used : List Int), (∀ r ∈ rows, r.length ≤ 6) → 0 ≤ waysS rows used ∧ waysS rows used ≤ 6 ^ rows.length
  | [], _, _ => by simp [waysS]
  | row :: rest, used, h => by
    have hr := h row (by simp)
    have hp := pow6_pos rest.length
    have := sum_bd (g := fun x => if hasB used x then 0 else waysS rest (used ++ [x])) (c := 6 ^ rest.length) (l := row) (fun x _ => by
      have ih := waysS_bd rest (used ++ [x]) (fun r hr => h r (by simp [hr]))
      split
      · omega
      · exact ih)
    simp only [waysS, List.length_cons]
    rw [Int.pow_succ]
    refine ⟨this.1, Int.le_trans this.2 ?_⟩
    have h6 : (row.length : Int) * 6 ^ rest.length ≤ 6 * 6 ^ rest.length := Int.mul_le_mul_of_nonneg_right (by omega) (by omega)
    omega

/-! ### over sets of ends -/
def waysM (ends : List Int) : List (List Int) → Nat → Int
  | [], _ => 1
  | row :: rest, T => (row.map fun x => if T.testBit (ends.idxOf x) then 0 else waysM ends rest (T ||| 2 ^ ends.idxOf x)).sum
theorem map_sum_congr {g h : Int → Int} : ∀ {l : List Int}, (∀ x ∈ l, g x = h x) → (l.map g).sum = (l.map h).sum
  | [], _ => rfl
  | x :: r, hh => by
    simp only [List.map_cons, List.sum_cons]
    rw [hh x (by simp), map_sum_congr (l := r) (fun y hy => hh y (by simp [hy]))]
theorem waysM_eq {ends : List Int} (hn : ends.Nodup) : ∀ (rows : List (List Int)) (T : Nat) (used : List Int), (∀ r ∈ rows, ∀ x ∈ r, x ∈ ends) → (∀ x ∈ ends, T.testBit (ends.idxOf x) = hasB used x) → waysM ends rows T = waysS rows used
  | [], _, _, _, _ => rfl
  | row :: rest, T, used, hr, hT => by
    simp only [waysM, waysS]
    refine map_sum_congr fun x hx => ?_
    have hxe := hr row (by simp) x hx
    simp only [hT x hxe]
    split
    · rfl
    · refine waysM_eq hn rest _ _ (fun r hr' => hr r (by simp [hr'])) (fun y hy => ?_)
      rw [Nat.testBit_or, hT y hy, Nat.testBit_two_pow, hasB_snoc]
      congr 1
      rw [Bool.eq_iff_iff]
      simp only [decide_eq_true_eq, beq_iff_eq]
      constructor
      · intro e
        have h1 := nth_idx hxe
        have h2 := nth_idx hy
        rw [← h1.2, ← h2.2, e]
      · intro e; rw [e]

/-! ### sums over pairs -/
abbrev WL := List (Int × Int)
def sumBy (g : Int → Int) (L : WL) : Int := (L.map fun p => p.2 * g p.1).sum
def wlook : WL → Int → Int
  | [], _ => 0
  | (k, v) :: r, x => if k = x then v else wlook r x
def wset : WL → Int → Int → WL
  | [], x, v => [(x, v)]
  | (k, u) :: r, x, v => if k = x then (k, v) :: r else (k, u) :: wset r x v
theorem sumBy_wset (g : Int → Int) (x d : Int) : ∀ L : WL, sumBy g (wset L x (wlook L x + d)) = sumBy g L + d * g x
  | [] => by simp [wset, wlook, sumBy]
  | (k, u) :: r => by
    by_cases h : k = x
    · subst h
      simp only [wset, wlook, if_true, sumBy, List.map_cons, List.sum_cons]
      rw [Int.add_mul]; omega
    · have ih := sumBy_wset g x d r
      simp only [wset, wlook, if_neg h, sumBy, List.map_cons, List.sum_cons] at *
      rw [ih]; omega
theorem sumBy_append (g : Int → Int) (A B : WL) : sumBy g (A ++ B) = sumBy g A + sumBy g B := by simp [sumBy]
theorem sumBy_mid (g : Int → Int) (A B : WL) (p : Int × Int) : sumBy g (A ++ p :: B) = sumBy g (A ++ B) + p.2 * g p.1 := by
  simp [sumBy]; omega
/-- all keys are numbers below c, all values are not negative -/
def WOk (c : Nat) (L : WL) : Prop := ∀ p ∈ L, 0 ≤ p.1 ∧ p.1 < (2 : Int) ^ c ∧ 0 ≤ p.2
theorem wlook_ge {c : Nat} {L : WL} (h : WOk c L) (x : Int) : 0 ≤ wlook L x := by
  induction L with
  | nil => simp [wlook]
  | cons p r ih =>
    obtain ⟨k, v⟩ := p
    simp only [wlook]
    split
    · exact (h (k, v) (by simp)).2.2
    · exact ih (fun q hq => h q (by simp [hq]))
theorem WOk.wset {c : Nat} {L : WL} (h : WOk c L) {x v : Int} (h0 : 0 ≤ x) (h1 : x < (2 : Int) ^ c) (hv : 0 ≤ v) : WOk c (wset L x v) := by
  induction L with
  | nil => intro p hp; simp [Go.Proofs.Ytndcbnnbgedgcaa.wset] at hp; subst hp; exact ⟨h0, h1, hv⟩
  | cons q r ih =>
    obtain ⟨k, u⟩ := q
    have hq := h (k, u) (by simp)
    have hr : WOk c r := fun p hp => h p (by simp [hp])
    intro p hp
    simp only [Go.Proofs.Ytndcbnnbgedgcaa.wset] at hp
    split at hp
    · rcases List.mem_cons.1 hp with rfl | hp
      · exact ⟨hq.1, hq.2.1, hv⟩
      · exact hr p hp
    · rcases List.mem_cons.1 hp with rfl | hp
      · exact hq
      · exact ih hr p hp
theorem wlook_le_sum {c : Nat} {L : WL} (h : WOk c L) (x : Int) : wlook L x ≤ sumBy (fun _ => 1) L ∧ 0 ≤ sumBy (fun _ => 1) L := by
  induction L with
  | nil => simp [wlook, sumBy]
  | cons p r ih =>
    obtain ⟨k, v⟩ := p
    have hp := (h (k, v) (by simp)).2.2
    have ih := ih (fun q hq => h q (by simp [hq]))
    have e : sumBy (fun _ => 1) ((k, v) :: r) = v + sumBy (fun _ => 1) r := by simp [sumBy]
    rw [e]
    simp only [wlook]
    simp only at hp
    split
    · omega
    · omega
theorem mem_le_sum {c : Nat} {L : WL} (h : WOk c L) {p : Int × Int} (hp : p ∈ L) : p.2 ≤ sumBy (fun _ => 1) L := by
  induction L with
  | nil => cases hp
  | cons q r ih =>
    have hq := (h q (by simp)).2.2
    have hr : WOk c r := fun p hp => h p (by simp [hp])
    have e : sumBy (fun _ => 1) (q :: r) = q.2 + sumBy (fun _ => 1) r := by simp [sumBy]
    have h0 := (wlook_le_sum hr 0).2
    rw [e]
    rcases List.mem_cons.1 hp with rfl | hp
    · omega
    · have := ih hr hp; omega
/-- what one pair gives to the next sets, over the first i ends of a row -/
def giveTo (ends row : List Int) (g : Int → Int) (T v : Int) (i : Nat) : Int :=
  ((row.take i).map fun x => if T.toNat.testBit (ends.idxOf x) then 0 else v * g ((T.toNat ||| 2 ^ ends.idxOf x : Nat) : Int)).sum
theorem giveTo_succ {ends row : List Int} {g : Int → Int} {T v : Int} {i : Nat} (h : i < row.length) :
    giveTo ends row g T v (i + 1) = giveTo ends row g T v i + if T.toNat.testBit (ends.idxOf (nth row i)) then 0 else v * g ((T.toNat ||| 2 ^ ends.idxOf (nth row i) : Nat) : Int) := by
  unfold giveTo
  rw [List.take_succ_eq_append_getElem h, List.map_append, List.sum_append, nth_eq_getElem h]
  simp
theorem giveTo_ways {ends : List Int} {row : List Int} {rest : List (List Int)} {T v : Int} : giveTo ends row (fun U => waysM ends rest U.toNat) T v row.length = v * waysM ends (row :: rest) T.toNat := by
  unfold giveTo
  rw [List.take_of_length_le (Nat.le_refl _)]
  simp only [waysM]
  have : ∀ l : List Int, (l.map fun x => if T.toNat.testBit (ends.idxOf x) then 0 else v * waysM ends rest (((T.toNat ||| 2 ^ ends.idxOf x : Nat) : Int).toNat)).sum = v * (l.map fun x => if T.toNat.testBit (ends.idxOf x) then 0 else waysM ends rest (T.toNat ||| 2 ^ ends.idxOf x)).sum := by
    intro l
    induction l with
    | nil => simp
    | cons x r ih =>
      simp only [List.map_cons, List.sum_cons, ih, Int.mul_add, Int.toNat_natCast]
      congr 1
      split
      · simp
      · rfl
  exact this row
theorem giveTo_one {ends row : List Int} {T v : Int} (hv : 0 ≤ v) (i : Nat) (hi : i ≤ 6) : 0 ≤ giveTo ends row (fun _ => 1) T v i ∧ giveTo ends row (fun _ => 1) T v i ≤ 6 * v := by
  unfold giveTo
  have := sum_bd (g := fun x => if T.toNat.testBit (ends.idxOf x) then 0 else v * 1) (c := v) (l := row.take i) (fun x _ => by split <;> omega)
  refine ⟨this.1, Int.le_trans this.2 ?_⟩
  have hl : (row.take i).length ≤ 6 := by simp; omega
  exact Int.mul_le_mul_of_nonneg_right (by omega) hv

/-! ### upper bounds -/
def rowsOf (f : Flow) : List (List Int) := matTo f f.senders.toNat
def upperE (f : Flow) : Int := if checkE f ≠ 0 then checkE f else if 12 < f.senders then 2 else 0
def upperR (f : Flow) : Int := if upperE f = 0 then waysS (rowsOf f) [] else 0

end Go.Proofs.Ytndcbnnbgedgcaa
