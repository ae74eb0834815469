/-
  Layer 3, plain: what holds in Lex's loop.
-/
import Derived.Test.YtfnmidddgjlipaaGreatDoorLx10
set_option linter.unusedVariables false
set_option linter.unusedSimpArgs false
namespace Go.Proofs.YtfnmidddgjlipaaGreatDoor
open Go.RowKit

def LexInv (l : List UInt8) (at_ : Nat) (ts : List Tok) : Prop :=
  lexA l 0 = (ts ++ (lexA (l.drop at_) at_).1, (lexA (l.drop at_) at_).2) ∧ at_ ≤ l.length ∧ ts.length ≤ at_ ∧ ∀ t ∈ ts, validB t = true
theorem inv_start (l : List UInt8) : LexInv l 0 [] := ⟨by simp, by simp, by simp, by simp⟩
theorem inv_skip {l : List UInt8} {at_ k : Nat} {ts : List Tok} (h : LexInv l at_ ts) (hs : stepL (l.drop at_) = some (k, none)) : LexInv l (at_ + k) ts := by
  obtain ⟨h1, h2, h3, h4⟩ := h
  have hp := step_pos hs
  simp only [List.length_drop] at hp
  refine ⟨?_, by omega, by omega, h4⟩
  rw [h1, lexA_step hs, List.drop_drop]
  rfl
theorem inv_tok {l : List UInt8} {at_ k : Nat} {ts : List Tok} {t : Tok} (h : LexInv l at_ ts) (hs : stepL (l.drop at_) = some (k, some t)) : LexInv l (at_ + k) (ts ++ [{ t with pos := (at_ : Int) }]) := by
  obtain ⟨h1, h2, h3, h4⟩ := h
  have hp := step_pos hs
  simp only [List.length_drop] at hp
  refine ⟨?_, by omega, by simp; omega, fun u hu => ?_⟩
  · rw [h1, lexA_step hs, List.drop_drop]
    simp [addTok]
  · rcases List.mem_append.1 hu with h | h
    · exact h4 u h
    · obtain rfl := List.mem_singleton.1 h
      exact step_valid hs _
theorem inv_spc {l : List UInt8} {at_ : Nat} {ts : List Tok} (h : LexInv l at_ ts) : LexInv l (at_ + ((l.drop at_).takeWhile isSpc).length) ts := by
  obtain ⟨h1, h2, h3, h4⟩ := h
  have hle := (List.takeWhile_prefix (l := l.drop at_) isSpc).length_le
  simp only [List.length_drop] at hle
  refine ⟨?_, by omega, by omega, h4⟩
  rw [h1, ← lexA_spcs (l.drop at_) at_, List.drop_drop]
theorem inv_bad {l : List UInt8} {at_ : Nat} {ts : List Tok} (h : LexInv l at_ ts) (hlt : at_ < l.length) (hs : stepL (l.drop at_) = none) : (lexA l 0).2 = some at_ := by
  rw [h.1, lexA_bad (by intro e; have := congrArg List.length e; simp at this; omega) hs]
theorem inv_end {l : List UInt8} {at_ : Nat} {ts : List Tok} (h : LexInv l at_ ts) (hlt : l.length ≤ at_) : lexA l 0 = (ts, none) := by
  rw [h.1, List.drop_of_length_le hlt, lexA_nil, List.append_nil]

/-! ### one byte -/
theorem drop_at {l : List UInt8} {at_ : Nat} {c : UInt8} (h : l[at_]? = some c) : l.drop at_ = c :: l.drop (at_ + 1) := by
  obtain ⟨hlt, he⟩ := List.getElem?_eq_some_iff.1 h
  rw [List.drop_eq_getElem_cons hlt, he]
theorem cls_step (c : UInt8) (r : List UInt8) :
    (cls c = 1 ∧ isSpc c = true) ∨
    (cls c = 2 ∧ stepL (c :: r) = if nameB ((c :: r).takeWhile isPart) then some (((c :: r).takeWhile isPart).length, some ⟨1, (c :: r).takeWhile isPart, 0, 0⟩) else none) ∨
    (cls c = 3 ∧ isDig c = true ∧ stepL (c :: r) = if numB ((c :: r).takeWhile isDig) then some (((c :: r).takeWhile isDig).length, some ⟨2, [], valOf ((c :: r).takeWhile isDig), 0⟩) else none) ∨
    (cls c = 4 ∧ isSgn c = true ∧ stepL (c :: r) = if c == 47 && r.head? == some 47 then some (comLen (c :: r), none) else some (1, some ⟨3, [c], 0, 0⟩)) ∨
    ((cls c = 0 ∨ cls c = 5) ∧ stepL (c :: r) = none) := by
  by_cases h1 : isLet c = true
  · right; left
    have hp := let_part h1
    refine ⟨by unfold cls; simp [h1], ?_⟩
    simp [stepL, part_spc hp, part_slash hp, h1]
  · have h1' : isLet c = false := by simpa using h1
    by_cases h2 : isDig c = true
    · right; right; left
      have hp := dig_part h2
      refine ⟨by unfold cls; simp [h1', h2], h2, ?_⟩
      simp [stepL, part_spc hp, part_slash hp, h1', h2]
    · have h2' : isDig c = false := by simpa using h2
      by_cases h3 : c.toNat = 95
      · right; right; right; right
        have hc : c = 95 := UInt8.toNat.inj (by rw [h3]; rfl)
        subst hc
        have a1 : isSpc 95 = false := rfl
        have a2 : isLet 95 = false := rfl
        have a3 : isDig 95 = false := rfl
        have a4 : isSgn 95 = false := rfl
        have a5 : ((95 : UInt8) == 47) = false := rfl
        exact ⟨.inr rfl, by simp only [stepL, a1, a2, a3, a4, a5]; rfl⟩
      · by_cases h4 : isSpc c = true
        · left
          exact ⟨by unfold cls; simp [h1', h2', h3, h4], h4⟩
        · have h4' : isSpc c = false := by simpa using h4
          by_cases h5 : isSgn c = true
          · right; right; right; left
            refine ⟨by unfold cls; simp [h1', h2', h3, h4', h5], h5, ?_⟩
            simp only [stepL, h4', h1', h2', h5]
            simp
          · right; right; right; right
            have h5' : isSgn c = false := by simpa using h5
            have h6 : (c == 47) = false := by
              cases e : (c == 47) with
              | false => rfl
              | true => obtain rfl : c = 47 := by simpa using e
                        cases h5'
            exact ⟨.inl (by unfold cls; simp [h1', h2', h3, h4', h5']), by simp [stepL, h4', h6, h1', h2', h5']⟩
theorem com_prefix (c : UInt8) (r : List UInt8) : Go.Lib.hasPrefix (c :: r) [47, 47] = (c == 47 && r.head? == some 47) := by
  unfold Go.Lib.hasPrefix
  match r with
  | [] =>
    cases h : (c == 47) <;> simp [List.isPrefixOf]
  | d :: s =>
    simp only [List.isPrefixOf, List.head?_cons, Bool.and_true]
    have e1 : ((47 : UInt8) == c) = (c == 47) := by rw [Bool.eq_iff_iff, beq_iff_eq, beq_iff_eq]; exact ⟨Eq.symm, Eq.symm⟩
    have e2 : ((47 : UInt8) == d) = (some d == some 47) := by rw [Bool.eq_iff_iff, beq_iff_eq, beq_iff_eq]; exact ⟨fun h => by rw [h], fun h => by injection h with h; exact h.symm⟩
    rw [e1, e2]
theorem runL_eq {src : ByteArray} {at_ : Nat} {zs : List Int} {p : UInt8 → Bool} (h : ∀ c, runP zs c = p c) : runL src at_ zs = (src.data.toList.drop at_).takeWhile p := by
  unfold runL
  have : runP zs = p := funext h
  rw [this]
theorem OwnToks.base {C C' : Nat} {w : World} {v : Value} {ts : List Tok} (h : OwnToks C' w v ts) (hC : C ≤ C') : OwnToks C w v ts := by
  obtain ⟨⟨hl, h1⟩, h2⟩ := h
  refine ⟨⟨hl, ?_⟩, h2⟩
  rcases h1 with h1 | ⟨g, cap, cur, e, hb, rest⟩
  · exact .inl h1
  · exact .inr ⟨g, cap, cur, e, Nat.le_trans hC hb, rest⟩
end Go.Proofs.YtfnmidddgjlipaaGreatDoor
