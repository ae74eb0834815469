/-
  Layer 3 (lex), plain: classes of bytes, the tokens of a source. No program in sight.
-/
import Derived.Lib.ItoaNum
import Derived.Lib.AtoiAll
set_option linter.unusedVariables false
set_option linter.unusedSimpArgs false
namespace Go.Proofs.YtfnmidddgjlipaaGreatDoor

structure Tok where
  kind : Int
  text : List UInt8
  n : Int
  pos : Int
deriving DecidableEq
instance : Inhabited Tok := ⟨⟨0, [], 0, 0⟩⟩

def isLet (c : UInt8) : Bool := (decide (97 ≤ c.toNat) && decide (c.toNat ≤ 122)) || (decide (65 ≤ c.toNat) && decide (c.toNat ≤ 90))
def isDig (c : UInt8) : Bool := decide (48 ≤ c.toNat) && decide (c.toNat ≤ 57)
def isSpc (c : UInt8) : Bool := decide (c.toNat = 32) || decide (c.toNat = 9) || decide (c.toNat = 10) || decide (c.toNat = 13)
def signL : List UInt8 := [123, 125, 40, 41, 59, 44, 61, 58, 46, 60, 62, 33, 43, 45, 42, 47]
def isSgn (c : UInt8) : Bool := signL.contains c
def isPart (c : UInt8) : Bool := isLet c || isDig c || decide (c.toNat = 95)

def nameB : List UInt8 → Bool
  | [] => false
  | c :: r => decide ((c :: r).length ≤ 32) && isLet c && (c :: r).all isPart

def valOf (l : List UInt8) : Nat := l.foldl (fun a c => 10 * a + (c.toNat - 48)) 0
def numB (l : List UInt8) : Bool := (l.length == 1 || l.head? != some 48) && decide (valOf l ≤ 1099511627776)

/-- how long a comment is: up to the line feed -/
def comLen (l : List UInt8) : Nat := (l.takeWhile fun c => c != 10).length

/-- one step: none: an error; else how many bytes, and the token -/
def stepL : List UInt8 → Option (Nat × Option Tok)
  | [] => none
  | c :: r =>
    if isSpc c then some (1, none)
    else if c == 47 && r.head? == some 47 then some (comLen (c :: r), none)
    else if isLet c then (if nameB ((c :: r).takeWhile isPart) then some (((c :: r).takeWhile isPart).length, some ⟨1, (c :: r).takeWhile isPart, 0, 0⟩) else none)
    else if isDig c then (if numB ((c :: r).takeWhile isDig) then some (((c :: r).takeWhile isDig).length, some ⟨2, [], valOf ((c :: r).takeWhile isDig), 0⟩) else none)
    else if isSgn c then some (1, some ⟨3, [c], 0, 0⟩) else none

abbrev LexO := List Tok × Option Nat

def addTok (o : Option Tok) (at_ : Nat) (r : LexO) : LexO :=
  match o with
  | none => r
  | some t => ({ t with pos := at_ } :: r.1, r.2)

def lexF : Nat → List UInt8 → Nat → LexO
  | 0, _, _ => ([], none)
  | _ + 1, [], _ => ([], none)
  | f + 1, c :: l, at_ =>
    match stepL (c :: l) with
    | none => ([], some at_)
    | some (k, o) => addTok o at_ (lexF f ((c :: l).drop k) (at_ + k))
def lexA (l : List UInt8) (at_ : Nat) : LexO := lexF l.length l at_

theorem step_pos {l : List UInt8} {k : Nat} {o : Option Tok} (h : stepL l = some (k, o)) : 1 ≤ k ∧ k ≤ l.length := by
  match l, h with
  | c :: r, h =>
    simp only [stepL] at h
    split at h
    · cases h; simp
    · split at h
      · rename_i h1
        cases h
        simp only [Bool.and_eq_true, beq_iff_eq] at h1
        obtain ⟨rfl, _⟩ := h1
        unfold comLen
        exact ⟨by simp [List.takeWhile_cons], (List.takeWhile_prefix _).length_le⟩
      · split at h
        · rename_i h2
          split at h
          · cases h
            refine ⟨?_, (List.takeWhile_prefix _).length_le⟩
            have : isPart c = true := by unfold isPart; simp [h2]
            simp [List.takeWhile_cons, this]
          · cases h
        · split at h
          · rename_i h3
            split at h
            · cases h
              exact ⟨by simp [List.takeWhile_cons, h3], (List.takeWhile_prefix _).length_le⟩
            · cases h
          · split at h
            · cases h; simp
            · cases h

theorem lexF_fuel : ∀ (f g : Nat) (l : List UInt8) (at_ : Nat), l.length ≤ f → l.length ≤ g → lexF f l at_ = lexF g l at_
  | 0, 0, l, at_, _, _ => rfl
  | 0, g + 1, [], at_, _, _ => rfl
  | 0, g + 1, c :: l, at_, h, _ => by simp at h
  | f + 1, 0, [], at_, _, _ => rfl
  | f + 1, 0, c :: l, at_, _, h => by simp at h
  | f + 1, g + 1, [], at_, _, _ => rfl
  | f + 1, g + 1, c :: l, at_, hf, hg => by
    simp only [lexF]
    cases hs : stepL (c :: l) with
    | none => rfl
    | some p =>
      obtain ⟨k, o⟩ := p
      have hp := step_pos hs
      simp only []
      rw [lexF_fuel f g ((c :: l).drop k) (at_ + k) (by simp at *; omega) (by simp at *; omega)]

theorem lexA_nil (at_ : Nat) : lexA [] at_ = ([], none) := rfl
theorem lexA_bad {l : List UInt8} {at_ : Nat} (hl : l ≠ []) (h : stepL l = none) : lexA l at_ = ([], some at_) := by
  match l, hl with
  | c :: r, _ => simp only [lexA, List.length_cons, lexF, h]
theorem lexA_step {l : List UInt8} {at_ k : Nat} {o : Option Tok} (h : stepL l = some (k, o)) : lexA l at_ = addTok o at_ (lexA (l.drop k) (at_ + k)) := by
  have hp := step_pos h
  match l, h with
  | c :: r, h =>
    simp only [lexA, List.length_cons, lexF, h]
    rw [lexF_fuel r.length ((c :: r).drop k).length ((c :: r).drop k) (at_ + k) (by simp; omega) (Nat.le_refl _)]

/-- induction over the steps of a source -/
theorem lex_induct {P : List UInt8 → Prop} (h0 : P []) (hb : ∀ l, l ≠ [] → stepL l = none → P l) (hs : ∀ l k o, stepL l = some (k, o) → P (l.drop k) → P l) (l : List UInt8) : P l := by
  have : ∀ n (l : List UInt8), l.length ≤ n → P l := by
    intro n
    induction n with
    | zero => intro l h; obtain rfl : l = [] := List.length_eq_zero_iff.1 (by omega); exact h0
    | succ n ih =>
      intro l h
      cases hst : stepL l with
      | none =>
        by_cases hn : l = []
        · subst hn; exact h0
        · exact hb l hn hst
      | some p =>
        obtain ⟨k, o⟩ := p
        have hp := step_pos hst
        exact hs l k o hst (ih _ (by simp; omega))
  exact this l.length l (Nat.le_refl _)

theorem step_spc {c : UInt8} {r : List UInt8} (h : isSpc c = true) : stepL (c :: r) = some (1, none) := by simp [stepL, h]
theorem lexA_spc {c : UInt8} {r : List UInt8} {at_ : Nat} (h : isSpc c = true) : lexA (c :: r) at_ = lexA r (at_ + 1) := by
  rw [lexA_step (step_spc h)]; rfl
/-- a run of spaces -/
theorem lexA_spcs : ∀ (l : List UInt8) (at_ : Nat), lexA (l.drop (l.takeWhile isSpc).length) (at_ + (l.takeWhile isSpc).length) = lexA l at_
  | [], at_ => rfl
  | c :: r, at_ => by
    by_cases h : isSpc c = true
    · rw [List.takeWhile_cons, if_pos h, lexA_spc h, ← lexA_spcs r (at_ + 1)]
      simp only [List.length_cons, List.drop_succ_cons]
      rw [show at_ + ((r.takeWhile isSpc).length + 1) = at_ + 1 + (r.takeWhile isSpc).length by omega]
    · rw [List.takeWhile_cons, if_neg h]
      rfl
theorem addTok_fst (o : Option Tok) (at_ : Nat) (r : LexO) : (addTok o at_ r).2 = r.2 := by cases o <;> rfl

/-- how Lex ends -/
def lexT (l : List UInt8) : List Tok := if l.length > 65536 then [] else if (lexA l 0).2 = none then (lexA l 0).1 else []
def lexP (l : List UInt8) : Int := if l.length > 65536 then 0 else match (lexA l 0).2 with | none => 0 | some i => (i : Int)
def lexE (l : List UInt8) : Int := if l.length > 65536 then 2 else if (lexA l 0).2 = none then 0 else 30

/-- a valid token -/
def validB (t : Tok) : Bool :=
  if t.kind == 1 then nameB t.text && t.n == 0
  else if t.kind == 2 then t.text == [] && decide (0 ≤ t.n) && decide (t.n ≤ 1099511627776)
  else if t.kind == 3 then (match t.text with | [c] => isSgn c && t.n == 0 | _ => false)
  else false

theorem step_valid {l : List UInt8} {k : Nat} {t : Tok} (h : stepL l = some (k, some t)) (p : Int) : validB { t with pos := p } = true := by
  match l, h with
  | c :: r, h =>
    simp only [stepL] at h
    split at h
    · cases h
    · split at h
      · cases h
      · split at h
        · split at h
          · rename_i h2; cases h; simp [validB, h2]
          · cases h
        · split at h
          · split at h
            · rename_i h2
              cases h
              unfold numB at h2
              simp at h2
              simp [validB]
              omega
            · cases h
          · split at h
            · rename_i h2; cases h; simp [validB, h2]
            · cases h

theorem lexA_valid (l : List UInt8) : ∀ at_, ∀ t ∈ (lexA l at_).1, validB t = true := by
  refine lex_induct (P := fun l => ∀ at_, ∀ t ∈ (lexA l at_).1, validB t = true) ?_ ?_ ?_ l
  · intro at_ t ht; rw [lexA_nil] at ht; cases ht
  · intro l hl hs at_ t ht; rw [lexA_bad hl hs] at ht; cases ht
  · intro l k o hs ih at_ t ht
    rw [lexA_step hs] at ht
    cases o with
    | none => exact ih _ t ht
    | some u =>
      rcases List.mem_cons.1 ht with rfl | ht
      · exact step_valid hs _
      · exact ih _ t ht

/-- the text of a token -/
def txt (t : Tok) : List UInt8 := if t.kind == 2 then Go.Lib.itoa t.n else t.text

end Go.Proofs.YtfnmidddgjlipaaGreatDoor
