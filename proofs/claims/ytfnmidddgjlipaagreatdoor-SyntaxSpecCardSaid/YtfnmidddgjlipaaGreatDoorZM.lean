/-
  Texts that stood one after the other, joined by a program (each part's own remark stands at its head below).
-/
import Derived.Test.YtfnmidddgjlipaaGreatDoorY1s
import Derived.Test.YtfnmidddgjlipaaGreatDoorY2
import Derived.Test.YtfnmidddgjlipaaGreatDoorLx13
import Derived.Test.YtfnmidddgjlipaaGreatDoorY12
import Derived.Test.YtfnmidddgjlipaaGreatDoorY15
import Derived.Deep.RegionHeld3
/-
  Layer 17, plain: the specification's parser: it goes on, marked as bad, behind an error.
-/
set_option linter.unusedVariables false
set_option linter.unusedSimpArgs false
namespace Go.Proofs.YtfnmidddgjlipaaGreatDoor

/-- how many tokens are read; whether an error was met, and at which place -/
structure PSt where
  n : Nat
  bad : Bool
  at_ : Int
/-- a part of the parser, from a state -/
def stepS {α : Type} (L : List Tok) (stop : Int) (p : List Tok → PR α) (s : PSt) : PSt × Option α :=
  if s.bad then (s, none) else match p (L.drop s.n) with
  | .error e => (⟨L.length - e.length, true, placeOf stop e⟩, none)
  | .ok (x, r) => (⟨L.length - r.length, false, s.at_⟩, some x)
section
variable {L : List Tok} {stop : Int}
theorem step_bad {α : Type} {p : List Tok → PR α} {s : PSt} (h : s.bad = true) : stepS L stop p s = (s, none) := by unfold stepS; rw [if_pos h]
theorem step_err {α : Type} {p : List Tok → PR α} {s : PSt} {e : List Tok} (h : s.bad = false) (hp : p (L.drop s.n) = .error e) : stepS L stop p s = (⟨L.length - e.length, true, placeOf stop e⟩, none) := by
  unfold stepS; rw [if_neg (by rw [h]; decide), hp]
theorem step_ok {α : Type} {p : List Tok → PR α} {s : PSt} {x : α} {r : List Tok} (h : s.bad = false) (hp : p (L.drop s.n) = .ok (x, r)) : stepS L stop p s = (⟨L.length - r.length, false, s.at_⟩, some x) := by
  unfold stepS; rw [if_neg (by rw [h]; decide), hp]
theorem step_n {α : Type} {p : List Tok → PR α} {s : PSt} (h : s.n ≤ L.length) : (stepS L stop p s).1.n ≤ L.length := by
  unfold stepS
  split
  · exact h
  · split <;> simp
theorem step_some {α : Type} {p : List Tok → PR α} {s : PSt} {x : α} (h : (stepS L stop p s).2 = some x) : (stepS L stop p s).1.bad = false := by
  unfold stepS at h ⊢
  split at h
  · cases h
  · rename_i hb
    rw [if_neg hb]
    split at h
    · cases h
    · rfl
theorem step_none {α : Type} {p : List Tok → PR α} {s : PSt} (h : (stepS L stop p s).2 = none) : (stepS L stop p s).1.bad = true := by
  unfold stepS at h ⊢
  split at h
  · rename_i hb; rw [if_pos hb]; exact hb
  · rename_i hb
    rw [if_neg hb]
    split at h
    · rfl
    · cases h
theorem drop_back {r l : List Tok} (h : r <:+ l) : l.drop (l.length - r.length) = r := by
  obtain ⟨p, rfl⟩ := h
  simp
theorem step_bind {α β : Type} {p : List Tok → PR α} {q : α → List Tok → PR β} (he : Ends p) (s : PSt) :
    stepS L stop (pBind p q) s = match (stepS L stop p s).2 with
      | none => ((stepS L stop p s).1, none)
      | some x => stepS L stop (q x) (stepS L stop p s).1 := by
  cases hb : s.bad with
  | true => rw [step_bad hb, step_bad hb]
  | false =>
    cases hp : p (L.drop s.n) with
    | error e => rw [step_err hb hp]; exact step_err hb (by unfold pBind; rw [hp])
    | ok v =>
      obtain ⟨x, r⟩ := v
      rw [step_ok hb hp]
      have hs := he (L.drop s.n)
      rw [hp] at hs
      have hd : L.drop (L.length - r.length) = r := drop_back (hs.trans (List.drop_suffix ..))
      simp only
      cases hq : q x r with
      | error e => rw [step_err hb (e := e) (by unfold pBind; rw [hp]; exact hq), step_err (s := ⟨L.length - r.length, false, s.at_⟩) rfl (by show q x (L.drop (L.length - r.length)) = _; rw [hd]; exact hq)]
      | ok v =>
        obtain ⟨y, r'⟩ := v
        rw [step_ok hb (x := y) (r := r') (by unfold pBind; rw [hp]; exact hq), step_ok (s := ⟨L.length - r.length, false, s.at_⟩) rfl (by show q x (L.drop (L.length - r.length)) = _; rw [hd]; exact hq)]
theorem step_pure {α : Type} {x : α} {s : PSt} (hb : s.bad = false) (hn : s.n ≤ L.length) : stepS L stop (pPure x) s = (s, some x) := by
  rw [step_ok hb (x := x) (r := L.drop s.n) rfl, List.length_drop, show L.length - (L.length - s.n) = s.n by omega, ← hb]

/-! ### single steps -/
/-- is a token of a kind with a text next? -/
def nextB (L : List Tok) (s : PSt) (k : Int) (x : Str) : Bool := !s.bad && decide (s.n < L.length) && ((tokAt L s.n).kind == k) && ((tokAt L s.n).text == x)
def failS (L : List Tok) (stop : Int) (s : PSt) : PSt := if s.bad then s else ⟨s.n, true, placeOf stop (L.drop s.n)⟩
def expS (L : List Tok) (stop : Int) (s : PSt) (k : Int) (x : Str) : PSt := if nextB L s k x then { s with n := s.n + 1 } else failS L stop s
theorem drop_cons {L : List Tok} {n : Nat} (h : n < L.length) : L.drop n = tokAt L n :: L.drop (n + 1) := by
  rw [tokAt_get h]
  exact List.drop_eq_getElem_cons h
/-- a part that reads one token -/
theorem step_one {α : Type} {p : List Tok → PR α} {T : Tok → Option α} (h0 : p [] = .error []) (h1 : ∀ t r, p (t :: r) = match T t with
    | some x => .ok (x, r)
    | none => .error (t :: r)) {s : PSt} (hn : s.n ≤ L.length) :
    stepS L stop p s = if s.bad then (s, none) else if s.n < L.length then (match T (tokAt L s.n) with
      | some x => (⟨s.n + 1, s.bad, s.at_⟩, some x)
      | none => (failS L stop s, none)) else (failS L stop s, none) := by
  cases hb : s.bad with
  | true => rw [step_bad hb]; rfl
  | false =>
    rw [if_neg (by decide)]
    have hf : failS L stop s = ⟨s.n, true, placeOf stop (L.drop s.n)⟩ := by unfold failS; rw [hb]; rfl
    by_cases h : s.n < L.length
    · rw [if_pos h]
      have hd := drop_cons h
      cases ht : T (tokAt L s.n) with
      | none =>
        rw [step_err hb (e := L.drop s.n) (by rw [hd, h1, ht]), hf]
        simp only [List.length_drop]
        rw [show L.length - (L.length - s.n) = s.n by omega]
      | some x =>
        rw [step_ok hb (x := x) (r := L.drop (s.n + 1)) (by rw [hd, h1, ht])]
        simp only [List.length_drop]
        rw [show L.length - (L.length - (s.n + 1)) = s.n + 1 by omega]
    · rw [if_neg h]
      have hd : L.drop s.n = [] := List.drop_eq_nil_of_le (by omega)
      rw [step_err hb (e := []) (by rw [hd, h0]), hf, hd]
      simp only [List.length_nil]
      rw [show L.length - 0 = s.n by omega]
/-- kinds and texts that stand for a word or a sign -/
def Tok1 (k : Int) (x : Str) : Prop := (k = 1 ∧ x.length ≠ 1) ∨ (k = 3 ∧ nameB x = false)
theorem is_tok1 {k : Int} {x : Str} (hk : Tok1 k x) {t : Tok} (hv : validB t = true) : isT t x = (t.kind == k && t.text == x) := by
  unfold isT
  by_cases hx : t.text = x
  · subst hx
    rcases valid_kind hv with h | h | h
    · rw [h]
      rcases hk with ⟨rfl, _⟩ | ⟨rfl, h2⟩
      · simp
      · rw [(valid_name hv h).1] at h2; cases h2
    · rw [h]
      rcases hk with ⟨rfl, _⟩ | ⟨rfl, _⟩ <;> simp
    · rw [h]
      rcases hk with ⟨rfl, h2⟩ | ⟨rfl, _⟩
      · obtain ⟨c, hc, _⟩ := valid_sgn hv h
        rw [hc] at h2; exact absurd rfl h2
      · simp
  · have : (t.text == x) = false := by simpa using hx
    rw [this]
    simp
theorem valid_tokAt {L : List Tok} (hv : ∀ t ∈ L, validB t = true) {n : Nat} (h : n < L.length) : validB (tokAt L n) = true := by
  rw [tokAt_get h]; exact hv _ (List.getElem_mem h)
theorem want_step (hv : ∀ t ∈ L, validB t = true) {k : Int} {x : Str} (hk : Tok1 k x) {s : PSt} (hn : s.n ≤ L.length) :
    stepS L stop (pWant x) s = (expS L stop s k x, if nextB L s k x then some () else none) := by
  rw [step_one (p := pWant x) (T := fun t => if isT t x then some () else none) rfl (fun t r => by
    unfold pWant
    rw [take_cons]
    by_cases h : isT t x = true
    · rw [if_pos h, if_pos h]
    · rw [if_neg h, if_neg h]) hn]
  unfold expS nextB
  cases hb : s.bad with
  | true => simp [failS, hb]
  | false =>
    by_cases h : s.n < L.length
    · rw [is_tok1 hk (valid_tokAt hv h)]
      simp only [h, decide_true, Bool.not_false, Bool.true_and, if_true, Bool.false_eq_true, if_false]
      by_cases hx : (((tokAt L s.n).kind == k) && ((tokAt L s.n).text == x)) = true
      · rw [if_pos hx, if_pos hx]
      · rw [if_neg hx, if_neg hx]
    · simp [h]
theorem take_step (hv : ∀ t ∈ L, validB t = true) {k : Int} {x : Str} (hk : Tok1 k x) {s : PSt} (hb : s.bad = false) : pTake x (L.drop s.n) = if nextB L s k x then some (L.drop (s.n + 1)) else none := by
  unfold nextB
  rw [hb]
  by_cases h : s.n < L.length
  · rw [drop_cons h, take_cons, is_tok1 hk (valid_tokAt hv h)]
    simp [h]
  · rw [List.drop_eq_nil_of_le (by omega)]
    simp [h, pTake]
theorem next_bad {k : Int} {x : Str} {s : PSt} (hb : s.bad = true) : nextB L s k x = false := by unfold nextB; rw [hb]; rfl
/-- a choice by the next word -/
theorem step_if {α : Type} {p q : List Tok → PR α} (hv : ∀ t ∈ L, validB t = true) {k : Int} {x : Str} (hk : Tok1 k x) {s : PSt} (hn : s.n ≤ L.length) :
    stepS L stop (pIf x p q) s = if nextB L s k x then stepS L stop p ⟨s.n + 1, s.bad, s.at_⟩ else stepS L stop q s := by
  cases hb : s.bad with
  | true => rw [next_bad hb, step_bad hb, if_neg (by decide), step_bad hb]
  | false =>
    have ht := take_step hv hk hb
    by_cases h : nextB L s k x = true
    · rw [if_pos h] at ht ⊢
      unfold stepS
      rw [if_neg (by rw [hb]; decide)]
      unfold pIf
      rw [ht]
      rfl
    · rw [if_neg h] at ht ⊢
      unfold stepS
      rw [if_neg (by rw [hb]; decide), if_neg (by rw [hb]; decide)]
      unfold pIf
      rw [ht]
def bareB (L : List Tok) (s : PSt) : Bool := !s.bad && decide (s.n < L.length) && okName (tokAt L s.n)
theorem name_step {s : PSt} (hn : s.n ≤ L.length) : stepS L stop pName s = if bareB L s then (⟨s.n + 1, s.bad, s.at_⟩, some (tokAt L s.n).text) else (failS L stop s, none) := by
  rw [step_one (p := pName) (T := fun t => if okName t then some t.text else none) rfl (fun t r => by
    rw [name_cons]
    by_cases h : okName t = true
    · rw [if_pos h, if_pos h]
    · rw [if_neg h, if_neg h]) hn]
  unfold bareB
  cases hb : s.bad with
  | true => simp [failS, hb]
  | false =>
    by_cases h : s.n < L.length
    · by_cases ho : okName (tokAt L s.n) = true
      · simp [h, ho]
      · simp [h, ho]
    · simp [h]
def figB (L : List Tok) (s : PSt) (m : Int) : Bool := !s.bad && decide (s.n < L.length) && okNum m (tokAt L s.n)
theorem num_step {m : Int} {s : PSt} (hn : s.n ≤ L.length) : stepS L stop (pNum m) s = if figB L s m then (⟨s.n + 1, s.bad, s.at_⟩, some (tokAt L s.n).n) else (failS L stop s, none) := by
  rw [step_one (p := pNum m) (T := fun t => if okNum m t then some t.n else none) rfl (fun t r => by
    rw [num_cons]
    by_cases h : okNum m t = true
    · rw [if_pos h, if_pos h]
    · rw [if_neg h, if_neg h]) hn]
  unfold figB
  cases hb : s.bad with
  | true => simp [failS, hb]
  | false =>
    by_cases h : s.n < L.length
    · by_cases ho : okNum m (tokAt L s.n) = true
      · simp [h, ho]
      · simp [h, ho]
    · simp [h]
theorem exp_bad {s : PSt} {k : Int} {x : Str} (h : s.bad = true) : expS L stop s k x = s := by
  unfold expS
  rw [next_bad h]
  unfold failS
  rw [h]
  rfl
theorem exp_n {s : PSt} {k : Int} {x : Str} (hn : s.n ≤ L.length) : (expS L stop s k x).n ≤ L.length := by
  unfold expS
  split
  · rename_i h
    unfold nextB at h
    simp only [Bool.and_eq_true, decide_eq_true_eq] at h
    have := h.1.1.2
    show s.n + 1 ≤ _
    omega
  · unfold failS
    split
    · exact hn
    · exact hn
/-- a word, and a name behind it -/
theorem wn_step (hv : ∀ t ∈ L, validB t = true) {x : Str} (hx : x.length ≠ 1) {s : PSt} (hn : s.n ≤ L.length) : stepS L stop (pWN x) s = stepS L stop pName (expS L stop s 1 x) := by
  unfold pWN
  rw [step_bind (ends_want x), want_step hv (.inl ⟨rfl, hx⟩) hn]
  by_cases h : nextB L s 1 x = true
  · simp only [h, if_true]
  · have hbad : (expS L stop s 1 x).bad = true := by
      have := want_step (stop := stop) hv (k := 1) (x := x) (.inl ⟨rfl, hx⟩) hn
      have h2 := step_none (L := L) (stop := stop) (p := pWant x) (s := s) (by rw [this]; simp [h])
      rw [this] at h2
      exact h2
    rw [step_bad hbad]
    simp only [h, if_false]
    rfl
theorem wm_step (hv : ∀ t ∈ L, validB t = true) {x : Str} {m : Int} (hx : x.length ≠ 1) {s : PSt} (hn : s.n ≤ L.length) : stepS L stop (pWM x m) s = stepS L stop (pNum m) (expS L stop s 1 x) := by
  unfold pWM
  rw [step_bind (ends_want x), want_step hv (.inl ⟨rfl, hx⟩) hn]
  by_cases h : nextB L s 1 x = true
  · simp only [h, if_true]
  · have hbad : (expS L stop s 1 x).bad = true := by
      have := want_step (stop := stop) hv (k := 1) (x := x) (.inl ⟨rfl, hx⟩) hn
      have h2 := step_none (L := L) (stop := stop) (p := pWant x) (s := s) (by rw [this]; simp [h])
      rw [this] at h2
      exact h2
    rw [step_bad hbad]
    simp only [h, if_false]
    rfl
end
end Go.Proofs.YtfnmidddgjlipaaGreatDoor

/-
  Layer 17, plain: the specification's parser, whole orders: what is left behind an error does not matter.
-/
set_option linter.unusedVariables false
set_option linter.unusedSimpArgs false
namespace Go.Proofs.YtfnmidddgjlipaaGreatDoor

section
variable {L : List Tok} {stop : Int}
/-- the next part may be given any value behind an error -/
theorem bind_any {α β : Type} {p : List Tok → PR α} {q : α → List Tok → PR β} (he : Ends p) {s : PSt} {z : α} (hz : ∀ x, (stepS L stop p s).2 = some x → z = x) :
    stepS L stop (pBind p q) s = stepS L stop (q z) (stepS L stop p s).1 := by
  rw [step_bind he]
  cases h : (stepS L stop p s).2 with
  | none => rw [step_bad (step_none h)]
  | some x => rw [hz x h]
theorem pure_step {α : Type} {x : α} {s : PSt} (hn : s.n ≤ L.length) : stepS L stop (pPure x) s = (s, if s.bad then none else some x) := by
  cases hb : s.bad with
  | true => rw [step_bad hb]; rfl
  | false => rw [step_pure hb hn]; rfl
theorem exp_next {s : PSt} {k : Int} {x : Str} (h : nextB L s k x = true) : expS L stop s k x = ⟨s.n + 1, s.bad, s.at_⟩ := by unfold expS; rw [if_pos h]
theorem next_good {s : PSt} {k : Int} {x : Str} (h : nextB L s k x = true) : s.bad = false ∧ s.n < L.length := by
  unfold nextB at h
  simp only [Bool.and_eq_true, decide_eq_true_eq, Bool.not_eq_true'] at h
  exact ⟨h.1.1.1, h.1.1.2⟩
theorem want_pure {α : Type} (hv : ∀ t ∈ L, validB t = true) {k : Int} {x : Str} (hk : Tok1 k x) {y : α} {s : PSt} (hn : s.n ≤ L.length) :
    stepS L stop (pBind (pWant x) fun _ => pPure y) s = (expS L stop s k x, if nextB L s k x then some y else none) := by
  rw [step_bind (ends_want x), want_step hv hk hn]
  by_cases h : nextB L s k x = true
  · simp only [h, if_true]
    rw [pure_step (exp_n hn), exp_next h, (next_good h).1]
    rfl
  · simp only [h, if_false]
    rfl
theorem back_step (hv : ∀ t ∈ L, validB t = true) {s : PSt} (hn : s.n ≤ L.length) : stepS L stop pBack s = if nextB L s 1 wBack then (expS L stop s 1 wBack, some true) else (s, if s.bad then none else some false) := by
  unfold pBack
  rw [step_if hv (k := 1) (.inl ⟨rfl, by decide⟩) hn]
  by_cases h : nextB L s 1 wBack = true
  · rw [if_pos h, if_pos h, exp_next h]
    have hg := next_good h
    rw [pure_step (by show s.n + 1 ≤ _; omega), hg.1]
    rfl
  · rw [if_neg h, if_neg h, pure_step hn]
theorem else_step (hv : ∀ t ∈ L, validB t = true) {s : PSt} (hn : s.n ≤ L.length) : stepS L stop pElse s =
    if nextB L s 1 wElse then (if nextB L (expS L stop s 1 wElse) 1 wHold then (expS L stop (expS L stop s 1 wElse) 1 wHold, some 1) else (expS L stop (expS L stop s 1 wElse) 1 wForward, if nextB L (expS L stop s 1 wElse) 1 wForward then some 2 else none))
    else (s, if s.bad then none else some 0) := by
  unfold pElse
  rw [step_if hv (k := 1) (.inl ⟨rfl, by decide⟩) hn]
  by_cases h : nextB L s 1 wElse = true
  · have hx := exp_n (stop := stop) (k := 1) (x := wElse) hn
    rw [if_pos h, if_pos h, ← exp_next (stop := stop) h, step_if hv (k := 1) (.inl ⟨rfl, by decide⟩) hx]
    by_cases h2 : nextB L (expS L stop s 1 wElse) 1 wHold = true
    · rw [if_pos h2, if_pos h2, ← exp_next (stop := stop) h2, pure_step (exp_n hx), exp_next h2, (next_good h2).1]
      rfl
    · rw [if_neg h2, if_neg h2, want_pure hv (k := 1) (.inl ⟨rfl, by decide⟩) hx]
  · rw [if_neg h, if_neg h, pure_step hn]
theorem moreA_eq (acc : List Str) : pMoreA acc = pIf sComma (pBind pName fun s => pMoreA (acc ++ [s])) (pPure acc) := by
  funext l
  rw [moreA_step]
  unfold pIf pBind pPure
  cases h : pTake sComma l with
  | none => rfl
  | some r =>
    simp only
    cases e : pName r with
    | error s => rfl
    | ok v => rfl
theorem more_stop (hv : ∀ t ∈ L, validB t = true) {s : PSt} {acc : List Str} (hn : s.n ≤ L.length) (h : nextB L s 3 sComma = false) : stepS L stop (pMoreA acc) s = (s, if s.bad then none else some acc) := by
  rw [moreA_eq, step_if hv (k := 3) (.inr ⟨rfl, rfl⟩) hn, if_neg (by rw [h]; decide), pure_step hn]
theorem more_go (hv : ∀ t ∈ L, validB t = true) {s : PSt} {acc : List Str} (hn : s.n ≤ L.length) (h : nextB L s 3 sComma = true) :
    stepS L stop (pMoreA acc) s = stepS L stop (pMoreA (acc ++ [(stepS L stop pName (expS L stop s 3 sComma)).2.getD []])) (stepS L stop pName (expS L stop s 3 sComma)).1 := by
  rw [moreA_eq, step_if hv (k := 3) (.inr ⟨rfl, rfl⟩) hn, if_pos h, ← exp_next (stop := stop) h]
  exact bind_any ends_name (fun x hx => by rw [hx]; rfl)
theorem against_no (hv : ∀ t ∈ L, validB t = true) {s : PSt} (hn : s.n ≤ L.length) (h : nextB L s 1 wAgainst = false) : stepS L stop pAgainst s = (s, if s.bad then none else some []) := by
  rw [against_eq, step_if hv (k := 1) (.inl ⟨rfl, by decide⟩) hn, if_neg (by rw [h]; decide), pure_step hn]
theorem against_go (hv : ∀ t ∈ L, validB t = true) {s : PSt} (hn : s.n ≤ L.length) (h : nextB L s 1 wAgainst = true) :
    stepS L stop pAgainst s = stepS L stop (pMoreA [(stepS L stop (pWN wAgainst) s).2.getD []]) (stepS L stop (pWN wAgainst) s).1 := by
  rw [against_eq, step_if hv (k := 1) (.inl ⟨rfl, by decide⟩) hn, if_pos h, ← exp_next (stop := stop) h, wn_step hv (by decide) hn]
  exact bind_any ends_name (fun x hx => by rw [hx]; rfl)
theorem name_grows {s : PSt} (hn : s.n ≤ L.length) : s.n ≤ (stepS L stop pName s).1.n := by
  rw [name_step hn]
  split
  · show s.n ≤ s.n + 1; omega
  · unfold failS
    split
    · exact Nat.le_refl _
    · exact Nat.le_refl _
theorem okT_len {t : Tok} (h : okT t) : t.text.length ≤ 140737488351232 := h.2.1
theorem name_ok (hL : ∀ t ∈ L, okT t) {s : PSt} (hn : s.n ≤ L.length) : ((stepS L stop pName s).2.getD []).length ≤ 140737488351232 := by
  rw [name_step hn]
  split
  · rename_i h
    unfold bareB at h
    simp only [Bool.and_eq_true, decide_eq_true_eq] at h
    have hlt := h.1.2
    simp only [Option.getD_some]
    rw [tokAt_get hlt]
    exact okT_len (hL _ (List.getElem_mem hlt))
  · simp
theorem num_ok (hL : ∀ t ∈ L, okT t) {m : Int} {s : PSt} (hn : s.n ≤ L.length) : I64 ((stepS L stop (pNum m) s).2.getD 0) := by
  rw [num_step hn]
  split
  · rename_i h
    unfold figB at h
    simp only [Bool.and_eq_true, decide_eq_true_eq] at h
    have hlt := h.1.2
    simp only [Option.getD_some]
    rw [tokAt_get hlt]
    exact (hL _ (List.getElem_mem hlt)).2.2.1
  · unfold I64; simp
/-- an order, part by part; the values behind an error are any -/
theorem order_chain (hv : ∀ t ∈ L, validB t = true) {s0 : PSt} (hn : s0.n ≤ L.length) {a b c d : Str} {i j k p e : Int} {ag : List Str} {bk : Bool} {s1 s2 s3 s4 s5 s6 s7 s8 s9 s10 s11 : PSt}
    (h1 : (stepS L stop (pWN wLetter) s0).1 = s1 ∧ (stepS L stop (pWN wLetter) s0).2.getD [] = a) (h2 : (stepS L stop (pWN wFrom) s1).1 = s2 ∧ (stepS L stop (pWN wFrom) s1).2.getD [] = b)
    (h3 : (stepS L stop (pWN wTo) s2).1 = s3 ∧ (stepS L stop (pWN wTo) s2).2.getD [] = c) (h4 : (stepS L stop (pWN wClass) s3).1 = s4 ∧ (stepS L stop (pWN wClass) s3).2.getD [] = d)
    (h5 : (stepS L stop (pWM wAfter clockM) s4).1 = s5 ∧ (stepS L stop (pWM wAfter clockM) s4).2.getD 0 = i) (h6 : (stepS L stop (pWM wBy clockM) s5).1 = s6 ∧ (stepS L stop (pWM wBy clockM) s5).2.getD 0 = j)
    (h7 : (stepS L stop (pWM wCrowd crowdM) s6).1 = s7 ∧ (stepS L stop (pWM wCrowd crowdM) s6).2.getD 0 = k)
    (h8 : (stepS L stop pAgainst s7).1 = s8 ∧ ∀ x, (stepS L stop pAgainst s7).2 = some x → ag = x) (h9 : (stepS L stop (pWM wPay payM) s8).1 = s9 ∧ (stepS L stop (pWM wPay payM) s8).2.getD 0 = p)
    (h10 : (stepS L stop pBack s9).1 = s10 ∧ ∀ x, (stepS L stop pBack s9).2 = some x → bk = x) (h11 : (stepS L stop pElse s10).1 = s11 ∧ ∀ x, (stepS L stop pElse s10).2 = some x → e = x) :
    stepS L stop pOrder s0 = (expS L stop s11 3 sSemi, if nextB L s11 3 sSemi then some ⟨a, b, c, d, i, j, k, p, ag, bk, e⟩ else none) := by
  have g : ∀ {α : Type} {o : Option α} {z y : α}, o.getD z = y → ∀ x, o = some x → y = x := by
    intro α o z y h x hx
    rw [hx] at h
    exact h.symm
  have n1 : s1.n ≤ L.length := by rw [← h1.1]; exact step_n hn
  have n2 : s2.n ≤ L.length := by rw [← h2.1]; exact step_n n1
  have n3 : s3.n ≤ L.length := by rw [← h3.1]; exact step_n n2
  have n4 : s4.n ≤ L.length := by rw [← h4.1]; exact step_n n3
  have n5 : s5.n ≤ L.length := by rw [← h5.1]; exact step_n n4
  have n6 : s6.n ≤ L.length := by rw [← h6.1]; exact step_n n5
  have n7 : s7.n ≤ L.length := by rw [← h7.1]; exact step_n n6
  have n8 : s8.n ≤ L.length := by rw [← h8.1]; exact step_n n7
  have n9 : s9.n ≤ L.length := by rw [← h9.1]; exact step_n n8
  have n10 : s10.n ≤ L.length := by rw [← h10.1]; exact step_n n9
  have n11 : s11.n ≤ L.length := by rw [← h11.1]; exact step_n n10
  have hbody : stepS L stop pBody s0 = stepS L stop (pPure (⟨a, b, c, d, i, j, k, p, ag, bk, e⟩ : WishD)) s11 := by
    unfold pBody
    rw [bind_any (ends_wn _) (g h1.2), h1.1, bind_any (ends_wn _) (g h2.2), h2.1, bind_any (ends_wn _) (g h3.2), h3.1, bind_any (ends_wn _) (g h4.2), h4.1,
      bind_any (ends_wm _ _) (g h5.2), h5.1, bind_any (ends_wm _ _) (g h6.2), h6.1, bind_any (ends_wm _ _) (g h7.2), h7.1, bind_any ends_against h8.2, h8.1,
      bind_any (ends_wm _ _) (g h9.2), h9.1, bind_any ends_back h10.2, h10.1, bind_any ends_else h11.2, h11.1]
  unfold pOrder
  have hb2 := hbody
  rw [pure_step n11] at hb2
  rw [bind_any ends_body (z := ⟨a, b, c, d, i, j, k, p, ag, bk, e⟩) (fun x hx => by
    rw [hb2] at hx
    simp only at hx
    split at hx
    · cases hx
    · exact Option.some.inj hx), hb2]
  exact want_pure hv (k := 3) (.inr ⟨rfl, rfl⟩) n11
/-- one order more is read -/
theorem read_stepZ (hv : ∀ t ∈ L, validB t = true) {s : PSt} (hb : s.bad = false) (hn : s.n < L.length) :
    match (stepS L stop pOrder s).2 with
    | some x => pRead (L.drop s.n) = (match pRead (L.drop (stepS L stop pOrder s).1.n) with
      | .error e => .error e
      | .ok ys => .ok (x :: ys)) ∧ (stepS L stop pOrder s).1.bad = false ∧ s.n < (stepS L stop pOrder s).1.n
    | none => (stepS L stop pOrder s).1.bad = true ∧ ∃ e, pRead (L.drop s.n) = .error e ∧ (stepS L stop pOrder s).1.at_ = placeOf stop e := by
  have hne : L.drop s.n ≠ [] := by rw [drop_cons hn]; simp
  have hr := read_cons hne
  cases ho : pOrder (L.drop s.n) with
  | error e =>
    rw [step_err hb ho]
    rw [ho] at hr
    exact ⟨rfl, e, hr, rfl⟩
  | ok v =>
    obtain ⟨x, r⟩ := v
    rw [step_ok hb ho]
    rw [ho] at hr
    have hs := ends_order (L.drop s.n)
    rw [ho] at hs
    simp only at hs
    have hd : L.drop (L.length - r.length) = r := drop_back (hs.trans (List.drop_suffix ..))
    refine ⟨?_, rfl, ?_⟩
    · simp only
      rw [hd]
      exact hr
    · obtain ⟨t, u, he, hsu⟩ := order_some ho
      have h1 := hsu.length_le
      have h2 := congrArg List.length he
      simp only [List.length_drop, List.length_cons] at h2
      show s.n < L.length - r.length
      omega
end
end Go.Proofs.YtfnmidddgjlipaaGreatDoor

/-
  Layer 17: the walk of the specification's parser, first part: next, fail, expect, word.
-/
set_option linter.unusedVariables false
set_option linter.unusedSimpArgs false
namespace Go.Proofs.YtfnmidddgjlipaaGreatDoor
open Go.RowKit

def pvC (a : Option Addr) (N c : Nat) (stop : Int) (s : PSt) : Array Value := #[.slice a N c, .int .i64 (s.n : Int), .int .i64 stop, .bool s.bad, .int .i64 s.at_]
def pv (a : Option Addr) (N c : Nat) (stop : Int) (s : PSt) : Value := .agg (pvC a N c stop s)
abbrev pv0 (a : Option Addr) (N c : Nat) (stop : Int) (n : Nat) (bad : Bool) (at_ : Int) : Value := .agg #[.slice a N c, .int .i64 (n : Int), .int .i64 stop, .bool bad, .int .i64 at_]
set_option maxHeartbeats 2000000 in
set_option maxRecDepth 100000 in
theorem znext_any (B : Nat) (w : World) (a : Option Addr) (N c : Nat) (L : List Tok) (stop : Int) (s : PSt) (k : Int) (x : ByteArray) (hN : L.length = N) (hB : B ≤ w.heap.size) (hl : IsToks B w (.slice a N c) L) (hn : s.n ≤ N) :
    Calls Tryz.prog 69 #[pv a N c stop s, .int .i64 k, .string x] w fun e w' => e = .returned (.bool (nextB L s k x.data.toList)) ∧ Below w.heap.size w w' := by
  obtain ⟨n, bad, at_⟩ := s
  have HN : Hid (n ≤ N) := Lib.hid hn
  have HLN := Lib.hid hN
  obtain ⟨W0, hW0⟩ : ∃ W, w.alloc (.cells #[.slice a N c, .int .i64 (n : Int), .int .i64 stop, .bool bad, .int .i64 at_] 40) = W := ⟨_, rfl⟩
  have HB0 : Hid (Below w.heap.size w W0) := Lib.hid (by rw [← hW0]; exact box_below' w _)
  have HC0 : Hid (CellsN W0 w.heap.size #[.slice a N c, .int .i64 (n : Int), .int .i64 stop, .bool bad, .int .i64 at_]) := Lib.hid (by rw [← hW0]; exact CellsN.new _ _ _)
  have HL := Lib.hid (hl.below HB0.out hB)
  have HBX := Lib.hid hB
  obtain ⟨a', c', he, hc1, hc2, hc3⟩ := hl.form
  injection he with he1 he2 he3
  subst he1
  subst he3
  rw [hN] at hc1 hc3
  clear hl hn hB hN he2
  unfold pv pvC
  simp only
  go_enter Tryz.func69, Tryz.ntmps69
  go_upto_region 1 with fail
  try rw [hW0]
  clear hW0
  have m0 := HC0.out.cell 0
  have m1 := HC0.out.cell 1
  have m2 := HC0.out.cell 2
  have m3 := HC0.out.cell 3
  have m4 := HC0.out.cell 4
  simp at m0 m1 m2 m3 m4
  cases bad with
  | true =>
    go_wp2
    go_ret
    exact ⟨by unfold nextB; simp, HB0.out⟩
  | false =>
    by_cases hlt : n < N
    rotate_left
    · have hlt' : ¬ (n : Int) < (N : Int) := by omega
      go_wp2
      go_ret
      exact ⟨by unfold nextB; rw [HLN.out]; simp [hlt], HB0.out⟩
    have hL2 := HL.out
    rw [← HLN.out] at hL2
    obtain ⟨b, off, rfl, bb, g0, g1, g2, g3⟩ := hL2.cells (by rw [HLN.out]; exact hlt)
    have hbw : ¬ b = w.heap.size := by have := HBX.out; omega
    have HNB : Hid (nextB L ⟨n, false, at_⟩ k x.data.toList = (((tokAt L n).kind == k) && ((tokAt L n).text == x.data.toList))) := Lib.hid (by unfold nextB; rw [HLN.out]; simp [hlt])
    obtain ⟨t, ht⟩ : ∃ t, tokAt L n = t := ⟨_, rfl⟩
    rw [ht] at g0 g1 HNB
    clear hL2 ht
    obtain ⟨y, hy⟩ : ∃ y, (⟨t.text.toArray⟩ : ByteArray) = y := ⟨_, rfl⟩
    have HY : Hid (t.text = y.data.toList) := Lib.hid (by rw [← hy])
    unfold strV at g1
    rw [hy] at g1
    clear hy
    by_cases hk : t.kind = k
    · subst hk
      by_cases hx : y = x
      · subst hx
        go_wp2
        go_ret
        exact ⟨by rw [HNB.out, HY.out]; simp, HB0.out⟩
      · have hx' : ¬ y.toList = x.toList := by
          rw [Go.Lib.toList_data, Go.Lib.toList_data]
          intro e
          apply hx
          obtain ⟨⟨y⟩⟩ := y
          obtain ⟨⟨x⟩⟩ := x
          have e' : y = x := e
          rw [e']
        have HX : Hid ((y.data.toList == x.data.toList) = false) := Lib.hid (by
          simp only [beq_eq_false_iff_ne, ne_eq]
          intro e
          apply hx
          obtain ⟨⟨y⟩⟩ := y
          obtain ⟨⟨x⟩⟩ := x
          have e' : y = x := e
          rw [e'])
        go_wp2
        go_ret
        exact ⟨by rw [HNB.out, HY.out, HX.out]; simp [hx'], HB0.out⟩
    · have hk' : (t.kind == k) = false := by simpa using hk
      have HKN := Lib.hid hk'
      go_wp2
      go_ret
      exact ⟨by rw [HNB.out, HKN.out]; simp, HB0.out⟩
set_option maxHeartbeats 2000000 in
set_option maxRecDepth 100000 in
theorem zfail_any (B : Nat) (w : World) (a : Option Addr) (N c : Nat) (L : List Tok) (stop : Int) (s : PSt) (hN : L.length = N) (hB : B ≤ w.heap.size) (hl : IsToks B w (.slice a N c) L) (hn : s.n ≤ N) :
    Calls Tryz.prog 89 #[pv a N c stop s] w fun e w' => e = .returned (pv a N c stop (failS L stop s)) ∧ Below w.heap.size w w' := by
  obtain ⟨n, bad, at_⟩ := s
  have HN : Hid (n ≤ N) := Lib.hid hn
  have HLN := Lib.hid hN
  have HL := Lib.hid hl
  have HBX := Lib.hid hB
  obtain ⟨a', c', he, hc1, hc2, hc3⟩ := hl.form
  injection he with he1 he2 he3
  subst he1
  subst he3
  rw [hN] at hc1 hc3
  clear hl hn hB hN he2
  unfold pv pvC
  simp only
  cases bad with
  | true =>
    have HF : Hid (failS L stop ⟨n, true, at_⟩ = ⟨n, true, at_⟩) := Lib.hid rfl
    rw [HF.out]
    go_enter Tryz.func89, Tryz.ntmps89
    go_wp2
    refine bodyPost_ret (v := pv0 a N c stop n true at_) (by simp [results, Tryz.results89, go_sem]) rfl ⟨rfl, ?_⟩
    exact (box_below' _ _).alloc (by simp) _
  | false =>
    have HF : Hid (failS L stop ⟨n, false, at_⟩ = ⟨n, true, placeOf stop (L.drop n)⟩) := Lib.hid rfl
    rw [HF.out]
    simp only
    by_cases hlt : n < N
    rotate_left
    · have HP : Hid (placeOf stop (L.drop n) = stop) := Lib.hid (by rw [List.drop_eq_nil_of_le (by rw [HLN.out]; omega)]; rfl)
      rw [HP.out]
      have hlt' : ¬ (n : Int) < (N : Int) := by omega
      go_enter Tryz.func89, Tryz.ntmps89
      go_wp2
      refine bodyPost_ret (v := pv0 a N c stop n true stop) (by simp [results, Tryz.results89, go_sem]) rfl ⟨rfl, ?_⟩
      exact (box_below' _ _).alloc (by simp) _
    · have hL2 := HL.out
      rw [← HLN.out] at hL2
      obtain ⟨b, off, rfl, bb, g0, g1, g2, g3⟩ := hL2.cells (by rw [HLN.out]; exact hlt)
      have hbw : ¬ b = w.heap.size := by have := HBX.out; omega
      have hbw2 : ¬ b = w.heap.size + 1 := by have := HBX.out; omega
      have hbs : b < w.heap.size := by have := HBX.out; omega
      obtain ⟨t, ht⟩ : ∃ t, tokAt L n = t := ⟨_, rfl⟩
      have HP : Hid (placeOf stop (L.drop n) = t.pos) := Lib.hid (by rw [drop_cons (by rw [HLN.out]; exact hlt), ← ht]; rfl)
      rw [HP.out]
      rw [ht] at g3
      clear hL2 ht g0 g1 g2
      go_enter Tryz.func89, Tryz.ntmps89
      go_wp2
      refine bodyPost_ret (v := pv0 _ N c stop n true t.pos) (by simp [results, Tryz.results89, go_sem]) rfl ⟨rfl, ?_⟩
      exact (box_below' _ _).alloc (by simp) _
end Go.Proofs.YtfnmidddgjlipaaGreatDoor

/-
  Layer 17: the walk of the specification's parser, second part: expect, word, Reserved, bare, number, name (printed by tools/genz2.py).
-/
set_option linter.unusedVariables false
set_option linter.unusedSimpArgs false
namespace Go.Proofs.YtfnmidddgjlipaaGreatDoor
open Go.RowKit

set_option maxHeartbeats 4000000 in
set_option maxRecDepth 100000 in
theorem zexpect_any (B : Nat) (w : World) (a : Option Addr) (N c : Nat) (L : List Tok) (stop : Int) (s : PSt) (k : Int) (x : ByteArray) (hN : L.length = N) (hB : B ≤ w.heap.size) (hl : IsToks B w (.slice a N c) L) (hn : s.n ≤ N) :
    Calls Tryz.prog 72 #[pv a N c stop s, .int .i64 k, .string x] w fun e w' => e = .returned (pv a N c stop (expS L stop s k x.data.toList)) ∧ Below w.heap.size w w' := by
  obtain ⟨n, bad, at_⟩ := s
  have HN : Hid (n ≤ N) := Lib.hid hn
  have HLN := Lib.hid hN
  have HL := Lib.hid hl
  have HBX := Lib.hid hB
  obtain ⟨S, hS⟩ : ∃ S, w.heap.size = S := ⟨_, rfl⟩
  have HSZ := Lib.hid hS
  obtain ⟨a', c', he, hc1, hc2, hc3⟩ := hl.form
  injection he with he1 he2 he3
  subst he1
  subst he3
  rw [hN] at hc1 hc3
  clear hl hn hB hN he2
  unfold pv pvC
  simp only
  obtain ⟨W0, hW0⟩ : ∃ W, (w.alloc (.cells #[.slice a N c, .int .i64 (n : Int), .int .i64 stop, .bool bad, .int .i64 at_] 40)).alloc (.cells #[.slice none 0 0, .int .i64 0, .int .i64 0, .bool false, .int .i64 0] 40) = W := ⟨_, rfl⟩
  have HB0 : Hid (Below w.heap.size w W0) := Lib.hid (by rw [← hW0]; exact (box_below' _ _).alloc (by simp) _)
  have HC0 : Hid (CellsN W0 S #[.slice a N c, .int .i64 (n : Int), .int .i64 stop, .bool bad, .int .i64 at_]) := Lib.hid (by rw [← hW0, ← hS]; exact (CellsN.new w _ _).alloc _)
  have HR0 : Hid (CellsN W0 (S + 1) #[.slice none 0 0, .int .i64 0, .int .i64 0, .bool false, .int .i64 0]) := Lib.hid (by rw [← hW0, ← hS]; have := CellsN.new (w.alloc (.cells #[.slice a N c, .int .i64 (n : Int), .int .i64 stop, .bool bad, .int .i64 at_] 40)) #[.slice none 0 0, .int .i64 0, .int .i64 0, .bool false, .int .i64 0] 40; rw [World.size_alloc] at this; exact this)
  have hz0 : S + 2 ≤ W0.heap.size := by rw [← hW0]; simp [hS]
  have HW0 := Lib.hid hW0
  clear hW0
  go_enter Tryz.func72, Tryz.ntmps72
  go_upto_region 1 with fail
  try rw [HW0.out]
  try rw [hS]
  clear hS
  have m0 := HC0.out.cell 0
  have m1 := HC0.out.cell 1
  have m2 := HC0.out.cell 2
  have m3 := HC0.out.cell 3
  have m4 := HC0.out.cell 4
  simp at m0 m1 m2 m3 m4
  have HN1 := Lib.hid (znext_any B W0 a N c L stop ⟨n, bad, at_⟩ k x HLN.out (by have := HBX.out; have := HSZ.out; omega) (HL.out.below HB0.out HBX.out) HN.out)
  go_wp2_with fail
  refine HN1.out.mono ?_
  rintro e w1 ⟨rfl, hb⟩
  have HB1 : Hid (Below w.heap.size w w1) := Lib.hid (HB0.out.trans (hb.mono HB0.out.size))
  have HC1 := Lib.hid (HC0.out.ext hb)
  have HR1 := Lib.hid (HR0.out.ext hb)
  have hz1 : S + 2 ≤ w1.heap.size := Nat.le_trans hz0 hb.size
  clear hb m0 m1 m2 m3 m4
  obtain ⟨nb, hnb⟩ : ∃ b, nextB L ⟨n, bad, at_⟩ k x.data.toList = b := ⟨_, rfl⟩
  have HNB := Lib.hid hnb
  rw [hnb]
  clear hnb
  have m0 := HC1.out.cell 0
  have m1 := HC1.out.cell 1
  have m2 := HC1.out.cell 2
  have m3 := HC1.out.cell 3
  have m4 := HC1.out.cell 4
  simp at m0 m1 m2 m3 m4
  have r0 := HR1.out.cell 0
  have r1 := HR1.out.cell 1
  have r2 := HR1.out.cell 2
  have r3 := HR1.out.cell 3
  have r4 := HR1.out.cell 4
  simp at r0 r1 r2 r3 r4
  have f0 := HC1.out.free 0
  have f1 := HC1.out.free 1
  have f2 := HC1.out.free 2
  have f3 := HC1.out.free 3
  have f4 := HC1.out.free 4
  have g0 := HR1.out.free 0
  have g1 := HR1.out.free 1
  have g2 := HR1.out.free 2
  have g3 := HR1.out.free 3
  have g4 := HR1.out.free 4
  cases nb with
  | false =>
    have HE : Hid (expS L stop ⟨n, bad, at_⟩ k x.data.toList = failS L stop ⟨n, bad, at_⟩) := Lib.hid (by unfold expS; rw [HNB.out]; rfl)
    have HN2 := Lib.hid (zfail_any B w1 a N c L stop ⟨n, bad, at_⟩ HLN.out (by have := HBX.out; have := HSZ.out; omega) (HL.out.below HB1.out HBX.out) HN.out)
    go_wp2_with fail
    refine HN2.out.mono ?_
    rintro e w2 ⟨rfl, hb⟩
    have HB2 : Hid (Below w.heap.size w w2) := Lib.hid (HB1.out.trans (hb.mono HB1.out.size))
    have HR2 := Lib.hid (HR1.out.ext hb)
    clear hb m0 m1 m2 m3 m4 r0 r1 r2 r3 r4 f0 f1 f2 f3 f4 g0 g1 g2 g3 g4
    obtain ⟨s5, hs5⟩ : ∃ s, failS L stop ⟨n, bad, at_⟩ = s := ⟨_, rfl⟩
    rw [hs5] at HE ⊢
    clear hs5
    obtain ⟨n5, b5, at5⟩ := s5
    unfold pv pvC
    simp only
    have r0 := HR2.out.cell 0
    have r1 := HR2.out.cell 1
    have r2 := HR2.out.cell 2
    have r3 := HR2.out.cell 3
    have r4 := HR2.out.cell 4
    simp at r0 r1 r2 r3 r4
    have g0 := HR2.out.free 0
    have g1 := HR2.out.free 1
    have g2 := HR2.out.free 2
    have g3 := HR2.out.free 3
    have g4 := HR2.out.free 4
    go_wp2
    refine bodyPost_ret (v := pv0 a N c stop n5 b5 at5) (by simp [results, Tryz.results72, go_sem, r0, r1, r2, r3, r4]) rfl ⟨by rw [HE.out], ?_⟩
    have hSw : w.heap.size ≤ S + 1 := by have := HSZ.out; omega
    exact ((((HB2.out.setCell (p := ⟨S + 1, 0, none⟩) hSw _).setCell (p := ⟨S + 1, 1, none⟩) hSw _).setCell (p := ⟨S + 1, 2, none⟩) hSw _).setCell (p := ⟨S + 1, 3, none⟩) hSw _).setCell (p := ⟨S + 1, 4, none⟩) hSw _
  | true =>
    have hnl : n < N ∧ bad = false := by
      have h := HNB.out
      unfold nextB at h
      rw [HLN.out] at h
      simp only [Bool.and_eq_true, decide_eq_true_eq, Bool.not_eq_true'] at h
      exact ⟨h.1.1.2, h.1.1.1⟩
    obtain ⟨hnl1, rfl⟩ := hnl
    have HE : Hid (expS L stop ⟨n, false, at_⟩ k x.data.toList = ⟨n + 1, false, at_⟩) := Lib.hid (by unfold expS; rw [HNB.out]; rfl)
    go_wp2
    refine bodyPost_ret (v := pv0 a N c stop (n + 1) false at_) (by simp [results, Tryz.results72, go_sem, r0, r1, r2, r3, r4, m0, m1, m2, m3, m4]) rfl ⟨by rw [HE.out], ?_⟩
    have hSw : w.heap.size ≤ S + 1 := by have := HSZ.out; omega
    have hSv : w.heap.size ≤ S := by have := HSZ.out; omega
    exact (((((HB1.out.setCell (p := ⟨S, 1, none⟩) hSv _).setCell (p := ⟨S + 1, 0, none⟩) hSw _).setCell (p := ⟨S + 1, 1, none⟩) hSw _).setCell (p := ⟨S + 1, 2, none⟩) hSw _).setCell (p := ⟨S + 1, 3, none⟩) hSw _).setCell (p := ⟨S + 1, 4, none⟩) hSw _
set_option maxHeartbeats 4000000 in
set_option maxRecDepth 100000 in
theorem zword_any (B : Nat) (w : World) (a : Option Addr) (N c : Nat) (L : List Tok) (stop : Int) (s : PSt) (x : ByteArray) (hN : L.length = N) (hB : B ≤ w.heap.size) (hl : IsToks B w (.slice a N c) L) (hn : s.n ≤ N) :
    Calls Tryz.prog 70 #[pv a N c stop s, .string x] w fun e w' => e = .returned (pv a N c stop (expS L stop s 1 x.data.toList)) ∧ Below w.heap.size w w' := by
  obtain ⟨n, bad, at_⟩ := s
  have HN : Hid (n ≤ N) := Lib.hid hn
  have HLN := Lib.hid hN
  have HL := Lib.hid hl
  have HBX := Lib.hid hB
  obtain ⟨S, hS⟩ : ∃ S, w.heap.size = S := ⟨_, rfl⟩
  have HSZ := Lib.hid hS
  obtain ⟨a', c', he, hc1, hc2, hc3⟩ := hl.form
  injection he with he1 he2 he3
  subst he1
  subst he3
  rw [hN] at hc1 hc3
  clear hl hn hB hN he2
  unfold pv pvC
  simp only
  obtain ⟨W0, hW0⟩ : ∃ W, (w.alloc (.cells #[.slice a N c, .int .i64 (n : Int), .int .i64 stop, .bool bad, .int .i64 at_] 40)).alloc (.cells #[.slice none 0 0, .int .i64 0, .int .i64 0, .bool false, .int .i64 0] 40) = W := ⟨_, rfl⟩
  have HB0 : Hid (Below w.heap.size w W0) := Lib.hid (by rw [← hW0]; exact (box_below' _ _).alloc (by simp) _)
  have HC0 : Hid (CellsN W0 S #[.slice a N c, .int .i64 (n : Int), .int .i64 stop, .bool bad, .int .i64 at_]) := Lib.hid (by rw [← hW0, ← hS]; exact (CellsN.new w _ _).alloc _)
  have HR0 : Hid (CellsN W0 (S + 1) #[.slice none 0 0, .int .i64 0, .int .i64 0, .bool false, .int .i64 0]) := Lib.hid (by rw [← hW0, ← hS]; have := CellsN.new (w.alloc (.cells #[.slice a N c, .int .i64 (n : Int), .int .i64 stop, .bool bad, .int .i64 at_] 40)) #[.slice none 0 0, .int .i64 0, .int .i64 0, .bool false, .int .i64 0] 40; rw [World.size_alloc] at this; exact this)
  have hz0 : S + 2 ≤ W0.heap.size := by rw [← hW0]; simp [hS]
  have HW0 := Lib.hid hW0
  clear hW0
  go_enter Tryz.func70, Tryz.ntmps70
  go_upto_region 1 with fail
  try rw [HW0.out]
  try rw [hS]
  clear hS
  have m0 := HC0.out.cell 0
  have m1 := HC0.out.cell 1
  have m2 := HC0.out.cell 2
  have m3 := HC0.out.cell 3
  have m4 := HC0.out.cell 4
  simp at m0 m1 m2 m3 m4
  have HN1 := Lib.hid (zexpect_any B W0 a N c L stop ⟨n, bad, at_⟩ 1 x HLN.out (by have := HBX.out; have := HSZ.out; omega) (HL.out.below HB0.out HBX.out) HN.out)
  go_wp2_with fail
  refine HN1.out.mono ?_
  rintro e w1 ⟨rfl, hb⟩
  have HB1 : Hid (Below w.heap.size w w1) := Lib.hid (HB0.out.trans (hb.mono HB0.out.size))
  have HR1 := Lib.hid (HR0.out.ext hb)
  have hz1 : S + 2 ≤ w1.heap.size := Nat.le_trans hz0 hb.size
  clear hb m0 m1 m2 m3 m4
  have HE : Hid (expS L stop ⟨n, bad, at_⟩ 1 x.data.toList = expS L stop ⟨n, bad, at_⟩ 1 x.data.toList) := Lib.hid rfl
  obtain ⟨s5, hs5⟩ : ∃ s, expS L stop ⟨n, bad, at_⟩ 1 x.data.toList = s := ⟨_, rfl⟩
  have HS5 := Lib.hid hs5
  rw [hs5]
  clear hs5
  obtain ⟨n5, b5, at5⟩ := s5
  unfold pv pvC
  simp only
  have r0 := HR1.out.cell 0
  have r1 := HR1.out.cell 1
  have r2 := HR1.out.cell 2
  have r3 := HR1.out.cell 3
  have r4 := HR1.out.cell 4
  simp at r0 r1 r2 r3 r4
  have g0 := HR1.out.free 0
  have g1 := HR1.out.free 1
  have g2 := HR1.out.free 2
  have g3 := HR1.out.free 3
  have g4 := HR1.out.free 4
  go_wp2
  refine bodyPost_ret (v := pv0 a N c stop n5 b5 at5) (by simp [results, Tryz.results70, go_sem, r0, r1, r2, r3, r4]) rfl ⟨by rw [HS5.out], ?_⟩
  have hSw : w.heap.size ≤ S + 1 := by have := HSZ.out; omega
  have hSv : w.heap.size ≤ S := by have := HSZ.out; omega
  exact (((((HB1.out.setCell (p := ⟨S + 1, 0, none⟩) hSw _).setCell (p := ⟨S + 1, 1, none⟩) hSw _).setCell (p := ⟨S + 1, 2, none⟩) hSw _).setCell (p := ⟨S + 1, 3, none⟩) hSw _).setCell (p := ⟨S + 1, 4, none⟩) hSw _)
theorem zwords_any (w : World) : Calls Tryz.prog 111 #[] w fun e w' => ∃ b, e = .returned (.slice (some ⟨b, 0, none⟩) 13 13) ∧ b < w'.heap.size ∧ (∀ j, j < 13 → w'.cell? ⟨b, j, none⟩ = some (strV (wordsL.getD j []))) ∧ Below w.heap.size w w' := by
  go_enter Tryz.func111, Tryz.ntmps111
  go_wp2
  go_ret
  refine ⟨w.heap.size, rfl, by simp, fun j hj => ?_, box_below' _ _⟩
  rw [World.cell?_alloc_at _ _ _ _ rfl]
  match j, hj with
  | 0, _ => rfl
  | 1, _ => rfl
  | 2, _ => rfl
  | 3, _ => rfl
  | 4, _ => rfl
  | 5, _ => rfl
  | 6, _ => rfl
  | 7, _ => rfl
  | 8, _ => rfl
  | 9, _ => rfl
  | 10, _ => rfl
  | 11, _ => rfl
  | 12, _ => rfl
set_option maxHeartbeats 4000000 in
set_option maxRecDepth 100000 in
theorem zreserved_any (x : ByteArray) (w : World) : Calls Tryz.prog 101 #[.string x] w fun e w' => e = .returned (.bool (resB x.data.toList)) ∧ Below w.heap.size w w' := by
  obtain ⟨X, hX⟩ : ∃ X, x.data.toList = X := ⟨_, rfl⟩
  have HX := Lib.hid hX
  rw [hX]
  clear hX
  go_enter Tryz.func101, Tryz.ntmps101
  go_wp2_with fail
  refine (zwords_any w).mono ?_
  rintro e w1 ⟨b, rfl, hb1, hc, hb⟩
  have HB1 := Lib.hid hb
  have HC := Lib.hid hc
  clear hb hc
  go_wp2
  go_loop [4] (fun iv => ∃ k : Nat, k ≤ 13 ∧ iv = .int .i64 k ∧ ∀ j, j < k → wordsL.getD j [] ≠ X) (fun iv => 13 - (intOf iv).toNat)
  case atStart => exact ⟨0, by omega, rfl, fun j hj => by omega⟩
  case round =>
    obtain ⟨k, hk, rfl, hall⟩ := hrel
    have HALL := Lib.hid hall
    clear hall
    by_cases hlt : k < 13
    · have c0 := HC.out k hlt
      obtain ⟨y, hy⟩ : ∃ y, (⟨(wordsL.getD k []).toArray⟩ : ByteArray) = y := ⟨_, rfl⟩
      unfold strV at c0
      rw [hy] at c0
      have HY : Hid (wordsL.getD k [] = y.data.toList) := Lib.hid (by rw [← hy])
      clear hy
      have hlt2 : (k : Int) < 13 := by omega
      by_cases hx : y = x
      · subst hx
        have HR : Hid (resB X = true) := Lib.hid (by
          unfold resB
          rw [List.contains_iff_mem, ← HX.out, ← HY.out, List.getD_eq_getElem?_getD, List.getElem?_eq_getElem (show k < wordsL.length from hlt)]
          exact List.getElem_mem _)
        go_wp2
        go_ret
        exact ⟨by rw [HR.out]; rfl, HB1.out⟩
      · have hx' : ¬ y.toList = x.toList := by
          rw [Go.Lib.toList_data, Go.Lib.toList_data]
          intro e
          apply hx
          obtain ⟨⟨y⟩⟩ := y
          obtain ⟨⟨x⟩⟩ := x
          have e' : y = x := e
          rw [e']
        have HX' := Lib.hid hx'
        have hx2 : (y.toList == x.toList) = false := by simpa using hx'
        clear hx' hx
        go_wp2
        go_round
        case rel =>
          refine ⟨k + 1, by omega, by go_num, fun j hj => ?_⟩
          by_cases hjk : j < k
          · exact HALL.out j hjk
          · obtain rfl : j = k := by omega
            rw [HY.out, ← HX.out]
            have := HX'.out
            rwa [Go.Lib.toList_data, Go.Lib.toList_data] at this
        case measure => simp [intOf]; omega
    · obtain rfl : k = 13 := by omega
      have HR : Hid (resB X = false) := Lib.hid (by
        unfold resB
        rw [List.contains_eq_mem, decide_eq_false_iff_not]
        intro hm
        obtain ⟨j, hj, he⟩ := List.getElem_of_mem hm
        have := HALL.out j hj
        rw [List.getD_eq_getElem?_getD, List.getElem?_eq_getElem hj] at this
        exact this he)
      go_wp2
      go_ret
      exact ⟨by rw [HR.out]; rfl, HB1.out⟩
end Go.Proofs.YtfnmidddgjlipaaGreatDoor

/-
  Layer 17: the walk of the specification's parser, third part: bare, number, name (printed by tools/genz3.py).
-/
set_option linter.unusedVariables false
set_option linter.unusedSimpArgs false
namespace Go.Proofs.YtfnmidddgjlipaaGreatDoor
open Go.RowKit

theorem below_drewZ {B : Nat} {w w' : World} (h : Below B w w') : Below B w w'.drew := h.trans ((Drew.refl w').drewN 1 |>.below _)
theorem tok_cells {B : Nat} {w : World} {a : Option Addr} {N c n : Nat} {L : List Tok} (h : IsToks B w (.slice a N c) L) (hN : L.length = N) (hn : n < N) : ∃ b off, a = some ⟨b, off, none⟩ ∧ b < B ∧
    w.cell? ⟨b, off + n * 4, none⟩ = some (.int .i64 (tokAt L n).kind) ∧ w.cell? ⟨b, off + n * 4 + 1, none⟩ = some (strV (tokAt L n).text) ∧ w.cell? ⟨b, off + n * 4 + 2, none⟩ = some (.int .i64 (tokAt L n).n) ∧ w.cell? ⟨b, off + n * 4 + 3, none⟩ = some (.int .i64 (tokAt L n).pos) := by
  subst hN
  exact h.cells hn
set_option maxHeartbeats 4000000 in
set_option maxRecDepth 100000 in
theorem zbare_any (B : Nat) (w : World) (a : Option Addr) (N c : Nat) (L : List Tok) (stop : Int) (s : PSt) (hN : L.length = N) (hB : B ≤ w.heap.size) (hl : IsToks B w (.slice a N c) L) (hn : s.n ≤ N) :
    Calls Tryz.prog 88 #[pv a N c stop s] w fun e w' => e = .returned (.tuple #[strV ((stepS L stop pName s).2.getD []), pv a N c stop (stepS L stop pName s).1]) ∧ Below w.heap.size w w' := by
  obtain ⟨n, bad, at_⟩ := s
  have HN : Hid (n ≤ N) := Lib.hid hn
  have HLN := Lib.hid hN
  have HL := Lib.hid hl
  have HBX := Lib.hid hB
  obtain ⟨S, hS⟩ : ∃ S, w.heap.size = S := ⟨_, rfl⟩
  have HSZ := Lib.hid hS
  obtain ⟨a', c', he, hc1, hc2, hc3⟩ := hl.form
  injection he with he1 he2 he3
  subst he1
  subst he3
  rw [hN] at hc1 hc3
  clear hl hn hB hN he2
  unfold pv pvC
  simp only
  have HST := Lib.hid (name_step (L := L) (stop := stop) (s := ⟨n, bad, at_⟩) (by rw [HLN.out]; exact HN.out))
  obtain ⟨W0, hW0⟩ : ∃ W, (w.alloc (.cells #[.slice a N c, .int .i64 (n : Int), .int .i64 stop, .bool bad, .int .i64 at_] 40)).alloc (.cells #[.slice none 0 0, .int .i64 0, .int .i64 0, .bool false, .int .i64 0] 40) = W := ⟨_, rfl⟩
  have HB0 : Hid (Below w.heap.size w W0) := Lib.hid (by rw [← hW0]; exact (box_below' _ _).alloc (by simp) _)
  have HC0 : Hid (CellsN W0 S #[.slice a N c, .int .i64 (n : Int), .int .i64 stop, .bool bad, .int .i64 at_]) := Lib.hid (by rw [← hW0, ← hS]; exact (CellsN.new w _ _).alloc _)
  have HR0 : Hid (CellsN W0 (S + 1) #[.slice none 0 0, .int .i64 0, .int .i64 0, .bool false, .int .i64 0]) := Lib.hid (by rw [← hW0, ← hS]; have := CellsN.new (w.alloc (.cells #[.slice a N c, .int .i64 (n : Int), .int .i64 stop, .bool bad, .int .i64 at_] 40)) #[.slice none 0 0, .int .i64 0, .int .i64 0, .bool false, .int .i64 0] 40; rw [World.size_alloc] at this; exact this)
  have hz0 : S + 2 ≤ W0.heap.size := by rw [← hW0]; simp [hS]
  have HW0 := Lib.hid hW0
  clear hW0
  go_enter Tryz.func88, Tryz.ntmps88
  go_upto_region 1 with fail
  try rw [HW0.out]
  try rw [hS]
  clear hS
  have m0 := HC0.out.cell 0
  have m1 := HC0.out.cell 1
  have m2 := HC0.out.cell 2
  have m3 := HC0.out.cell 3
  have m4 := HC0.out.cell 4
  simp at m0 m1 m2 m3 m4
  have f0 := HC0.out.free 0
  have f1 := HC0.out.free 1
  have f2 := HC0.out.free 2
  have f3 := HC0.out.free 3
  have f4 := HC0.out.free 4
  cases hbad : bad with
  | true =>
    subst hbad
    have HE : Hid (stepS L stop pName ⟨n, true, at_⟩ = (failS L stop ⟨n, true, at_⟩, none)) := Lib.hid (by rw [HST.out]; rfl)
    have HN2 := Lib.hid (zfail_any B W0 a N c L stop ⟨n, true, at_⟩ HLN.out (by have := HBX.out; have := HSZ.out; omega) (HL.out.below HB0.out HBX.out) HN.out)
    go_wp2_with fail
    refine HN2.out.mono ?_
    rintro e w2 ⟨rfl, hb⟩
    have HB2 : Hid (Below w.heap.size w w2) := Lib.hid (HB0.out.trans (hb.mono HB0.out.size))
    have HR2 := Lib.hid (HR0.out.ext hb)
    clear hb m0 m1 m2 m3 m4
    obtain ⟨s5, hs5⟩ : ∃ s, failS L stop ⟨n, true, at_⟩ = s := ⟨_, rfl⟩
    have HS5 := Lib.hid hs5
    rw [hs5]
    clear hs5
    obtain ⟨n5, b5, at5⟩ := s5
    unfold pv pvC
    simp only
    have r0 := HR2.out.cell 0
    have r1 := HR2.out.cell 1
    have r2 := HR2.out.cell 2
    have r3 := HR2.out.cell 3
    have r4 := HR2.out.cell 4
    simp at r0 r1 r2 r3 r4
    have g0 := HR2.out.free 0
    have g1 := HR2.out.free 1
    have g2 := HR2.out.free 2
    have g3 := HR2.out.free 3
    have g4 := HR2.out.free 4
    go_wp2
    refine bodyPost_ret (v := .tuple #[.string ⟨#[]⟩, pv0 a N c stop n5 b5 at5]) (by simp [results, Tryz.results88, go_sem, r0, r1, r2, r3, r4]) rfl ⟨by rw [HE.out, HS5.out]; rfl, ?_⟩
    have hSw : w.heap.size ≤ S + 1 := by have := HSZ.out; omega
    exact (((((HB2.out.setCell (p := ⟨S + 1, 0, none⟩) hSw _).setCell (p := ⟨S + 1, 1, none⟩) hSw _).setCell (p := ⟨S + 1, 2, none⟩) hSw _).setCell (p := ⟨S + 1, 3, none⟩) hSw _).setCell (p := ⟨S + 1, 4, none⟩) hSw _)
  | false =>
    subst hbad
    by_cases hlt : n < N
    rotate_left
    · have hlt' : (N : Int) ≤ (n : Int) := by omega
      have HE : Hid (stepS L stop pName ⟨n, false, at_⟩ = (failS L stop ⟨n, false, at_⟩, none)) := Lib.hid (by rw [HST.out]; unfold bareB; rw [HLN.out]; simp [hlt])
      have HN2 := Lib.hid (zfail_any B W0 a N c L stop ⟨n, false, at_⟩ HLN.out (by have := HBX.out; have := HSZ.out; omega) (HL.out.below HB0.out HBX.out) HN.out)
      go_wp2_with fail
      refine HN2.out.mono ?_
      rintro e w2 ⟨rfl, hb⟩
      have HB2 : Hid (Below w.heap.size w w2) := Lib.hid (HB0.out.trans (hb.mono HB0.out.size))
      have HR2 := Lib.hid (HR0.out.ext hb)
      clear hb m0 m1 m2 m3 m4
      obtain ⟨s5, hs5⟩ : ∃ s, failS L stop ⟨n, false, at_⟩ = s := ⟨_, rfl⟩
      have HS5 := Lib.hid hs5
      rw [hs5]
      clear hs5
      obtain ⟨n5, b5, at5⟩ := s5
      unfold pv pvC
      simp only
      have r0 := HR2.out.cell 0
      have r1 := HR2.out.cell 1
      have r2 := HR2.out.cell 2
      have r3 := HR2.out.cell 3
      have r4 := HR2.out.cell 4
      simp at r0 r1 r2 r3 r4
      have g0 := HR2.out.free 0
      have g1 := HR2.out.free 1
      have g2 := HR2.out.free 2
      have g3 := HR2.out.free 3
      have g4 := HR2.out.free 4
      go_wp2
      refine bodyPost_ret (v := .tuple #[.string ⟨#[]⟩, pv0 a N c stop n5 b5 at5]) (by simp [results, Tryz.results88, go_sem, r0, r1, r2, r3, r4]) rfl ⟨by rw [HE.out, HS5.out]; rfl, ?_⟩
      have hSw : w.heap.size ≤ S + 1 := by have := HSZ.out; omega
      exact (((((HB2.out.setCell (p := ⟨S + 1, 0, none⟩) hSw _).setCell (p := ⟨S + 1, 1, none⟩) hSw _).setCell (p := ⟨S + 1, 2, none⟩) hSw _).setCell (p := ⟨S + 1, 3, none⟩) hSw _).setCell (p := ⟨S + 1, 4, none⟩) hSw _)
    obtain ⟨b, off, rfl, bb, g0, g1, g2, g3⟩ := tok_cells (HL.out.below HB0.out HBX.out) HLN.out hlt
    have hbS : b < S := by have := HBX.out; have := HSZ.out; omega
    have hb1 : ¬ b = S := by omega
    have hb2 : ¬ b = S + 1 := by omega
    have HBB : Hid (bareB L ⟨n, false, at_⟩ = okName (tokAt L n)) := Lib.hid (by unfold bareB; rw [HLN.out]; simp [hlt])
    rw [HBB.out] at HST
    clear HBB
    obtain ⟨t, ht⟩ : ∃ t, tokAt L n = t := ⟨_, rfl⟩
    rw [ht] at g0 g1 g2 g3 HST
    clear ht g2 g3
    have hltc : ¬ (N : Int) ≤ (n : Int) := by omega
    obtain ⟨y, hy⟩ : ∃ y, (⟨t.text.toArray⟩ : ByteArray) = y := ⟨_, rfl⟩
    have HY : Hid (t.text = y.data.toList) := Lib.hid (by rw [← hy])
    unfold strV at g1
    rw [hy] at g1
    clear hy
    by_cases hk : t.kind = 1
    rotate_left
    · have hk' : (t.kind != 1) = true := by simpa using hk
      have HE : Hid (stepS L stop pName ⟨n, false, at_⟩ = (failS L stop ⟨n, false, at_⟩, none)) := Lib.hid (by rw [HST.out, if_neg (by unfold okName; simp [hk])])
      clear hk
      have HN2 := Lib.hid (zfail_any B W0 (some ⟨b, off, none⟩) N c L stop ⟨n, false, at_⟩ HLN.out (by have := HBX.out; have := HSZ.out; omega) (HL.out.below HB0.out HBX.out) HN.out)
      go_wp2_with fail
      refine HN2.out.mono ?_
      rintro e w2 ⟨rfl, hb⟩
      have HB2 : Hid (Below w.heap.size w w2) := Lib.hid (HB0.out.trans (hb.mono HB0.out.size))
      have HR2 := Lib.hid (HR0.out.ext hb)
      clear hb m0 m1 m2 m3 m4
      obtain ⟨s5, hs5⟩ : ∃ s, failS L stop ⟨n, false, at_⟩ = s := ⟨_, rfl⟩
      have HS5 := Lib.hid hs5
      rw [hs5]
      clear hs5
      obtain ⟨n5, b5, at5⟩ := s5
      unfold pv pvC
      simp only
      have r0 := HR2.out.cell 0
      have r1 := HR2.out.cell 1
      have r2 := HR2.out.cell 2
      have r3 := HR2.out.cell 3
      have r4 := HR2.out.cell 4
      simp at r0 r1 r2 r3 r4
      have g0 := HR2.out.free 0
      have g1 := HR2.out.free 1
      have g2 := HR2.out.free 2
      have g3 := HR2.out.free 3
      have g4 := HR2.out.free 4
      go_wp2
      refine bodyPost_ret (v := .tuple #[.string ⟨#[]⟩, pv0 (some ⟨b, off, none⟩) N c stop n5 b5 at5]) (by simp [results, Tryz.results88, go_sem, r0, r1, r2, r3, r4]) rfl ⟨by rw [HE.out, HS5.out]; rfl, ?_⟩
      have hSw : w.heap.size ≤ S + 1 := by have := HSZ.out; omega
      exact (((((HB2.out.setCell (p := ⟨S + 1, 0, none⟩) hSw _).setCell (p := ⟨S + 1, 1, none⟩) hSw _).setCell (p := ⟨S + 1, 2, none⟩) hSw _).setCell (p := ⟨S + 1, 3, none⟩) hSw _).setCell (p := ⟨S + 1, 4, none⟩) hSw _)
    rw [hk] at g0
    have HK := Lib.hid hk
    clear hk
    go_wp2_with fail
    refine (zreserved_any y W0).mono ?_
    rintro e w1 ⟨rfl, hb⟩
    have HB1 : Hid (Below w.heap.size w w1) := Lib.hid (HB0.out.trans (hb.mono HB0.out.size))
    have HC1 := Lib.hid (HC0.out.ext hb)
    have HR1 := Lib.hid (HR0.out.ext hb)
    have hz1 : S + 2 ≤ w1.heap.size := Nat.le_trans hz0 hb.size
    have G0 := Lib.hid ((hb.cell (p := ⟨b, off + n * 4, none⟩) (by show b < _; omega)).trans g0)
    have G1 := Lib.hid ((hb.cell (p := ⟨b, off + n * 4 + 1, none⟩) (by show b < _; omega)).trans g1)
    clear hb m0 m1 m2 m3 m4 f0 f1 f2 f3 f4 g0 g1
    have g0 := G0.out
    have g1 := G1.out
    have m0 := HC1.out.cell 0
    have m1 := HC1.out.cell 1
    have m2 := HC1.out.cell 2
    have m3 := HC1.out.cell 3
    have m4 := HC1.out.cell 4
    simp at m0 m1 m2 m3 m4
    have r0 := HR1.out.cell 0
    have r1 := HR1.out.cell 1
    have r2 := HR1.out.cell 2
    have r3 := HR1.out.cell 3
    have r4 := HR1.out.cell 4
    simp at r0 r1 r2 r3 r4
    have f0 := HC1.out.free 0
    have f1 := HC1.out.free 1
    have f2 := HC1.out.free 2
    have f3 := HC1.out.free 3
    have f4 := HC1.out.free 4
    have h0 := HR1.out.free 0
    have h1 := HR1.out.free 1
    have h2 := HR1.out.free 2
    have h3 := HR1.out.free 3
    have h4 := HR1.out.free 4
    cases hr : resB y.data.toList with
    | true =>
      have HE : Hid (stepS L stop pName ⟨n, false, at_⟩ = (failS L stop ⟨n, false, at_⟩, none)) := Lib.hid (by rw [HST.out, if_neg (by unfold okName; rw [HY.out, hr]; simp)])
      clear hr r0 r1 r2 r3 r4 f0 f1 f2 f3 f4 h0 h1 h2 h3 h4
      have HN2 := Lib.hid (zfail_any B w1 (some ⟨b, off, none⟩) N c L stop ⟨n, false, at_⟩ HLN.out (by have := HBX.out; have := HSZ.out; omega) (HL.out.below HB1.out HBX.out) HN.out)
      go_wp2_with fail
      refine HN2.out.mono ?_
      rintro e w2 ⟨rfl, hb⟩
      have HB2 : Hid (Below w.heap.size w w2) := Lib.hid (HB1.out.trans (hb.mono HB1.out.size))
      have HR2 := Lib.hid (HR1.out.ext hb)
      clear hb m0 m1 m2 m3 m4
      obtain ⟨s5, hs5⟩ : ∃ s, failS L stop ⟨n, false, at_⟩ = s := ⟨_, rfl⟩
      have HS5 := Lib.hid hs5
      rw [hs5]
      clear hs5
      obtain ⟨n5, b5, at5⟩ := s5
      unfold pv pvC
      simp only
      have r0 := HR2.out.cell 0
      have r1 := HR2.out.cell 1
      have r2 := HR2.out.cell 2
      have r3 := HR2.out.cell 3
      have r4 := HR2.out.cell 4
      simp at r0 r1 r2 r3 r4
      have g0 := HR2.out.free 0
      have g1 := HR2.out.free 1
      have g2 := HR2.out.free 2
      have g3 := HR2.out.free 3
      have g4 := HR2.out.free 4
      go_wp2
      refine bodyPost_ret (v := .tuple #[.string ⟨#[]⟩, pv0 (some ⟨b, off, none⟩) N c stop n5 b5 at5]) (by simp [results, Tryz.results88, go_sem, r0, r1, r2, r3, r4]) rfl ⟨by rw [HE.out, HS5.out]; rfl, ?_⟩
      have hSw : w.heap.size ≤ S + 1 := by have := HSZ.out; omega
      exact (((((HB2.out.setCell (p := ⟨S + 1, 0, none⟩) hSw _).setCell (p := ⟨S + 1, 1, none⟩) hSw _).setCell (p := ⟨S + 1, 2, none⟩) hSw _).setCell (p := ⟨S + 1, 3, none⟩) hSw _).setCell (p := ⟨S + 1, 4, none⟩) hSw _)
    | false =>
      have HE : Hid (stepS L stop pName ⟨n, false, at_⟩ = (⟨n + 1, false, at_⟩, some t.text)) := Lib.hid (by rw [HST.out, if_pos (by unfold okName; rw [HY.out, hr, HK.out]; rfl)])
      clear hr
      obtain ⟨wA, hwA⟩ : ∃ W, w1.setCell ⟨S, 1, none⟩ (.int .i64 ((n : Int) + 1)) = W := ⟨_, rfl⟩
      have HCA : Hid (CellsN wA S #[.slice (some ⟨b, off, none⟩) N c, .int .i64 ((n : Int) + 1), .int .i64 stop, .bool false, .int .i64 at_]) := Lib.hid (by rw [← hwA]; have := HC1.out.set 1 (.int .i64 ((n : Int) + 1)); simpa using this)
      have HRA : Hid (CellsN wA (S + 1) #[.slice none 0 0, .int .i64 0, .int .i64 0, .bool false, .int .i64 0]) := Lib.hid (by rw [← hwA]; exact HR1.out.other (by omega) 1 _)
      have HBA : Hid (Below w.heap.size w wA) := Lib.hid (by rw [← hwA]; exact HB1.out.setCell (p := ⟨S, 1, none⟩) (by have := HSZ.out; show w.heap.size ≤ S; omega) _)
      have HWA := Lib.hid hwA
      clear hwA
      go_wp2
      rw [HWA.out]
      clear m0 m1 m2 m3 m4 r0 r1 r2 r3 r4 f0 f1 f2 f3 f4 h0 h1 h2 h3 h4
      have m0 := HCA.out.cell 0
      have m1 := HCA.out.cell 1
      have m2 := HCA.out.cell 2
      have m3 := HCA.out.cell 3
      have m4 := HCA.out.cell 4
      simp at m0 m1 m2 m3 m4
      go_still_tail 3, (by kernel_rfl)
      change wpList _ _ _ _ _ wA.drew
      have r0 := HRA.out.cell 0
      have r1 := HRA.out.cell 1
      have r2 := HRA.out.cell 2
      have r3 := HRA.out.cell 3
      have r4 := HRA.out.cell 4
      simp at r0 r1 r2 r3 r4
      have g0 := HRA.out.free 0
      have g1 := HRA.out.free 1
      have g2 := HRA.out.free 2
      have g3 := HRA.out.free 3
      have g4 := HRA.out.free 4
      go_wp2
      refine bodyPost_ret (v := .tuple #[.string y, pv0 (some ⟨b, off, none⟩) N c stop (n + 1) false at_]) (by simp [results, Tryz.results88, go_sem, r0, r1, r2, r3, r4]) rfl ⟨by rw [HE.out]; simp only [Option.getD_some]; rw [HY.out], ?_⟩
      have hSw : w.heap.size ≤ S + 1 := by have := HSZ.out; omega
      exact below_drewZ (((((HBA.out.setCell (p := ⟨S + 1, 0, none⟩) hSw _).setCell (p := ⟨S + 1, 1, none⟩) hSw _).setCell (p := ⟨S + 1, 2, none⟩) hSw _).setCell (p := ⟨S + 1, 3, none⟩) hSw _).setCell (p := ⟨S + 1, 4, none⟩) hSw _)
set_option maxHeartbeats 4000000 in
set_option maxRecDepth 100000 in
theorem znumber_any (B : Nat) (w : World) (a : Option Addr) (N c : Nat) (L : List Tok) (stop : Int) (s : PSt) (x : ByteArray) (m : Int) (hx : x.data.toList.length ≠ 1) (hv : ∀ t ∈ L, validB t = true) (hN : L.length = N) (hB : B ≤ w.heap.size) (hl : IsToks B w (.slice a N c) L) (hn : s.n ≤ N) :
    Calls Tryz.prog 67 #[pv a N c stop s, .string x, .int .i64 m] w fun e w' => e = .returned (.tuple #[.int .i64 ((stepS L stop (pWM x.data.toList m) s).2.getD 0), pv a N c stop (stepS L stop (pWM x.data.toList m) s).1]) ∧ Below w.heap.size w w' := by
  obtain ⟨n, bad, at_⟩ := s
  have HN : Hid (n ≤ N) := Lib.hid hn
  have HLN := Lib.hid hN
  have HL := Lib.hid hl
  have HBX := Lib.hid hB
  obtain ⟨S, hS⟩ : ∃ S, w.heap.size = S := ⟨_, rfl⟩
  have HSZ := Lib.hid hS
  obtain ⟨a', c', he, hc1, hc2, hc3⟩ := hl.form
  injection he with he1 he2 he3
  subst he1
  subst he3
  rw [hN] at hc1 hc3
  clear hl hn hB hN he2
  unfold pv pvC
  simp only
  have HST := Lib.hid (wm_step (L := L) (stop := stop) (s := ⟨n, bad, at_⟩) (m := m) hv hx (by rw [HLN.out]; exact HN.out))
  clear hx hv
  obtain ⟨W0, hW0⟩ : ∃ W, (w.alloc (.cells #[.slice a N c, .int .i64 (n : Int), .int .i64 stop, .bool bad, .int .i64 at_] 40)).alloc (.cells #[.slice none 0 0, .int .i64 0, .int .i64 0, .bool false, .int .i64 0] 40) = W := ⟨_, rfl⟩
  have HB0 : Hid (Below w.heap.size w W0) := Lib.hid (by rw [← hW0]; exact (box_below' _ _).alloc (by simp) _)
  have HC0 : Hid (CellsN W0 S #[.slice a N c, .int .i64 (n : Int), .int .i64 stop, .bool bad, .int .i64 at_]) := Lib.hid (by rw [← hW0, ← hS]; exact (CellsN.new w _ _).alloc _)
  have HR0 : Hid (CellsN W0 (S + 1) #[.slice none 0 0, .int .i64 0, .int .i64 0, .bool false, .int .i64 0]) := Lib.hid (by rw [← hW0, ← hS]; have := CellsN.new (w.alloc (.cells #[.slice a N c, .int .i64 (n : Int), .int .i64 stop, .bool bad, .int .i64 at_] 40)) #[.slice none 0 0, .int .i64 0, .int .i64 0, .bool false, .int .i64 0] 40; rw [World.size_alloc] at this; exact this)
  have hz0 : S + 2 ≤ W0.heap.size := by rw [← hW0]; simp [hS]
  have HW0 := Lib.hid hW0
  clear hW0
  go_enter Tryz.func67, Tryz.ntmps67
  go_upto_region 1 with fail
  try rw [HW0.out]
  try rw [hS]
  clear hS
  have m0 := HC0.out.cell 0
  have m1 := HC0.out.cell 1
  have m2 := HC0.out.cell 2
  have m3 := HC0.out.cell 3
  have m4 := HC0.out.cell 4
  simp at m0 m1 m2 m3 m4
  have HWD := Lib.hid (zword_any B W0 a N c L stop ⟨n, bad, at_⟩ x HLN.out (by have := HBX.out; have := HSZ.out; omega) (HL.out.below HB0.out HBX.out) HN.out)
  go_wp2_with fail
  refine HWD.out.mono ?_
  rintro e w1 ⟨rfl, hb⟩
  have HB1 : Hid (Below w.heap.size w w1) := Lib.hid (HB0.out.trans (hb.mono HB0.out.size))
  have HC1 := Lib.hid (HC0.out.ext hb)
  have HR1 := Lib.hid (HR0.out.ext hb)
  have hz1 : S + 2 ≤ w1.heap.size := Nat.le_trans hz0 hb.size
  clear hb m0 m1 m2 m3 m4
  have hn1 : (expS L stop ⟨n, bad, at_⟩ 1 x.data.toList).n ≤ N := by rw [← HLN.out]; exact exp_n (by rw [HLN.out]; exact HN.out)
  obtain ⟨s1, hs1⟩ : ∃ s, expS L stop ⟨n, bad, at_⟩ 1 x.data.toList = s := ⟨_, rfl⟩
  rw [hs1] at HST hn1 ⊢
  clear hs1
  obtain ⟨n1, b1, at1⟩ := s1
  have HN1 : Hid (n1 ≤ N) := Lib.hid hn1
  unfold pv pvC
  simp only
  clear hn1
  have m0 := HC1.out.cell 0
  have m1 := HC1.out.cell 1
  have m2 := HC1.out.cell 2
  have m3 := HC1.out.cell 3
  have m4 := HC1.out.cell 4
  simp at m0 m1 m2 m3 m4
  have f0 := HC1.out.free 0
  have f1 := HC1.out.free 1
  have f2 := HC1.out.free 2
  have f3 := HC1.out.free 3
  have f4 := HC1.out.free 4
  obtain ⟨wB, hwB⟩ : ∃ W, ((((w1.setCell ⟨S, 0, none⟩ (.slice a N c)).setCell ⟨S, 1, none⟩ (.int .i64 (n1 : Int))).setCell ⟨S, 2, none⟩ (.int .i64 stop)).setCell ⟨S, 3, none⟩ (.bool b1)).setCell ⟨S, 4, none⟩ (.int .i64 at1) = W := ⟨_, rfl⟩
  have HCB : Hid (CellsN wB S #[.slice a N c, .int .i64 (n1 : Int), .int .i64 stop, .bool b1, .int .i64 at1]) := Lib.hid (by rw [← hwB]; have := ((((HC1.out.set 0 (.slice a N c)).set 1 (.int .i64 (n1 : Int))).set 2 (.int .i64 stop)).set 3 (.bool b1)).set 4 (.int .i64 at1); simpa using this)
  have HRB : Hid (CellsN wB (S + 1) #[.slice none 0 0, .int .i64 0, .int .i64 0, .bool false, .int .i64 0]) := Lib.hid (by rw [← hwB]; exact ((((HR1.out.other (by omega) 0 _).other (by omega) 1 _).other (by omega) 2 _).other (by omega) 3 _).other (by omega) 4 _)
  have HBB : Hid (Below w.heap.size w wB) := Lib.hid (by rw [← hwB]; have hSv : w.heap.size ≤ S := by { have := HSZ.out; omega }; exact (((((HB1.out.setCell (p := ⟨S, 0, none⟩) hSv _).setCell (p := ⟨S, 1, none⟩) hSv _).setCell (p := ⟨S, 2, none⟩) hSv _).setCell (p := ⟨S, 3, none⟩) hSv _).setCell (p := ⟨S, 4, none⟩) hSv _))
  have hzB : S + 2 ≤ wB.heap.size := by rw [← hwB]; simpa using hz1
  have HWB := Lib.hid hwB
  clear hwB
  go_upto_region 2 with fail
  rw [HWB.out]
  clear m0 m1 m2 m3 m4 f0 f1 f2 f3 f4
  have m0 := HCB.out.cell 0
  have m1 := HCB.out.cell 1
  have m2 := HCB.out.cell 2
  have m3 := HCB.out.cell 3
  have m4 := HCB.out.cell 4
  simp at m0 m1 m2 m3 m4
  have HST2 := Lib.hid (num_step (L := L) (stop := stop) (m := m) (s := ⟨n1, b1, at1⟩) (by rw [HLN.out]; exact HN1.out))
  cases hbad : b1 with
  | true =>
    subst hbad
    have HE : Hid (stepS L stop (pWM x.data.toList m) ⟨n, bad, at_⟩ = (failS L stop ⟨n1, true, at1⟩, none)) := Lib.hid (by rw [HST.out, HST2.out]; rfl)
    have HN2 := Lib.hid (zfail_any B wB a N c L stop ⟨n1, true, at1⟩ HLN.out (by have := HBX.out; have := HSZ.out; omega) (HL.out.below HBB.out HBX.out) HN1.out)
    go_wp2_with fail
    refine HN2.out.mono ?_
    rintro e w2 ⟨rfl, hb⟩
    have HB2 : Hid (Below w.heap.size w w2) := Lib.hid (HBB.out.trans (hb.mono HBB.out.size))
    have HR2 := Lib.hid (HRB.out.ext hb)
    clear hb m0 m1 m2 m3 m4
    obtain ⟨s5, hs5⟩ : ∃ s, failS L stop ⟨n1, true, at1⟩ = s := ⟨_, rfl⟩
    have HS5 := Lib.hid hs5
    rw [hs5]
    clear hs5
    obtain ⟨n5, b5, at5⟩ := s5
    unfold pv pvC
    simp only
    have r0 := HR2.out.cell 0
    have r1 := HR2.out.cell 1
    have r2 := HR2.out.cell 2
    have r3 := HR2.out.cell 3
    have r4 := HR2.out.cell 4
    simp at r0 r1 r2 r3 r4
    have g0 := HR2.out.free 0
    have g1 := HR2.out.free 1
    have g2 := HR2.out.free 2
    have g3 := HR2.out.free 3
    have g4 := HR2.out.free 4
    go_wp2
    refine bodyPost_ret (v := .tuple #[.int .i64 0, pv0 a N c stop n5 b5 at5]) (by simp [results, Tryz.results67, go_sem, r0, r1, r2, r3, r4]) rfl ⟨by rw [HE.out, HS5.out]; rfl, ?_⟩
    have hSw : w.heap.size ≤ S + 1 := by have := HSZ.out; omega
    exact (((((HB2.out.setCell (p := ⟨S + 1, 0, none⟩) hSw _).setCell (p := ⟨S + 1, 1, none⟩) hSw _).setCell (p := ⟨S + 1, 2, none⟩) hSw _).setCell (p := ⟨S + 1, 3, none⟩) hSw _).setCell (p := ⟨S + 1, 4, none⟩) hSw _)
  | false =>
    subst hbad
    by_cases hlt : n1 < N
    rotate_left
    · have hlt' : (N : Int) ≤ (n1 : Int) := by omega
      have HE : Hid (stepS L stop (pWM x.data.toList m) ⟨n, bad, at_⟩ = (failS L stop ⟨n1, false, at1⟩, none)) := Lib.hid (by rw [HST.out, HST2.out]; unfold figB; rw [HLN.out]; simp [hlt])
      have HN2 := Lib.hid (zfail_any B wB a N c L stop ⟨n1, false, at1⟩ HLN.out (by have := HBX.out; have := HSZ.out; omega) (HL.out.below HBB.out HBX.out) HN1.out)
      go_wp2_with fail
      refine HN2.out.mono ?_
      rintro e w2 ⟨rfl, hb⟩
      have HB2 : Hid (Below w.heap.size w w2) := Lib.hid (HBB.out.trans (hb.mono HBB.out.size))
      have HR2 := Lib.hid (HRB.out.ext hb)
      clear hb m0 m1 m2 m3 m4
      obtain ⟨s5, hs5⟩ : ∃ s, failS L stop ⟨n1, false, at1⟩ = s := ⟨_, rfl⟩
      have HS5 := Lib.hid hs5
      rw [hs5]
      clear hs5
      obtain ⟨n5, b5, at5⟩ := s5
      unfold pv pvC
      simp only
      have r0 := HR2.out.cell 0
      have r1 := HR2.out.cell 1
      have r2 := HR2.out.cell 2
      have r3 := HR2.out.cell 3
      have r4 := HR2.out.cell 4
      simp at r0 r1 r2 r3 r4
      have g0 := HR2.out.free 0
      have g1 := HR2.out.free 1
      have g2 := HR2.out.free 2
      have g3 := HR2.out.free 3
      have g4 := HR2.out.free 4
      go_wp2
      refine bodyPost_ret (v := .tuple #[.int .i64 0, pv0 a N c stop n5 b5 at5]) (by simp [results, Tryz.results67, go_sem, r0, r1, r2, r3, r4]) rfl ⟨by rw [HE.out, HS5.out]; rfl, ?_⟩
      have hSw : w.heap.size ≤ S + 1 := by have := HSZ.out; omega
      exact (((((HB2.out.setCell (p := ⟨S + 1, 0, none⟩) hSw _).setCell (p := ⟨S + 1, 1, none⟩) hSw _).setCell (p := ⟨S + 1, 2, none⟩) hSw _).setCell (p := ⟨S + 1, 3, none⟩) hSw _).setCell (p := ⟨S + 1, 4, none⟩) hSw _)
    obtain ⟨b, off, rfl, bb, g0, g1, g2, g3⟩ := tok_cells (HL.out.below HBB.out HBX.out) HLN.out hlt
    have hbS : b < S := by have := HBX.out; have := HSZ.out; omega
    have hb1 : ¬ b = S := by omega
    have hb2 : ¬ b = S + 1 := by omega
    have HFB : Hid (figB L ⟨n1, false, at1⟩ m = okNum m (tokAt L n1)) := Lib.hid (by unfold figB; rw [HLN.out]; simp [hlt])
    rw [HFB.out] at HST2
    clear HFB
    obtain ⟨t, ht⟩ : ∃ t, tokAt L n1 = t := ⟨_, rfl⟩
    rw [ht] at g0 g1 g2 g3 HST2
    clear ht g1 g3
    have hltc : ¬ (N : Int) ≤ (n1 : Int) := by omega
    by_cases hk : t.kind = 2
    rotate_left
    · have hk' : (t.kind != 2) = true := by simpa using hk
      have HE : Hid (stepS L stop (pWM x.data.toList m) ⟨n, bad, at_⟩ = (failS L stop ⟨n1, false, at1⟩, none)) := Lib.hid (by rw [HST.out, HST2.out, if_neg (by unfold okNum; simp [hk])])
      clear hk
      have HN2 := Lib.hid (zfail_any B wB (some ⟨b, off, none⟩) N c L stop ⟨n1, false, at1⟩ HLN.out (by have := HBX.out; have := HSZ.out; omega) (HL.out.below HBB.out HBX.out) HN1.out)
      go_wp2_with fail
      refine HN2.out.mono ?_
      rintro e w2 ⟨rfl, hb⟩
      have HB2 : Hid (Below w.heap.size w w2) := Lib.hid (HBB.out.trans (hb.mono HBB.out.size))
      have HR2 := Lib.hid (HRB.out.ext hb)
      clear hb m0 m1 m2 m3 m4
      obtain ⟨s5, hs5⟩ : ∃ s, failS L stop ⟨n1, false, at1⟩ = s := ⟨_, rfl⟩
      have HS5 := Lib.hid hs5
      rw [hs5]
      clear hs5
      obtain ⟨n5, b5, at5⟩ := s5
      unfold pv pvC
      simp only
      have r0 := HR2.out.cell 0
      have r1 := HR2.out.cell 1
      have r2 := HR2.out.cell 2
      have r3 := HR2.out.cell 3
      have r4 := HR2.out.cell 4
      simp at r0 r1 r2 r3 r4
      have g0 := HR2.out.free 0
      have g1 := HR2.out.free 1
      have g2 := HR2.out.free 2
      have g3 := HR2.out.free 3
      have g4 := HR2.out.free 4
      go_wp2
      refine bodyPost_ret (v := .tuple #[.int .i64 0, pv0 (some ⟨b, off, none⟩) N c stop n5 b5 at5]) (by simp [results, Tryz.results67, go_sem, r0, r1, r2, r3, r4]) rfl ⟨by rw [HE.out, HS5.out]; rfl, ?_⟩
      have hSw : w.heap.size ≤ S + 1 := by have := HSZ.out; omega
      exact (((((HB2.out.setCell (p := ⟨S + 1, 0, none⟩) hSw _).setCell (p := ⟨S + 1, 1, none⟩) hSw _).setCell (p := ⟨S + 1, 2, none⟩) hSw _).setCell (p := ⟨S + 1, 3, none⟩) hSw _).setCell (p := ⟨S + 1, 4, none⟩) hSw _)
    rw [hk] at g0
    have HK := Lib.hid hk
    clear hk
    by_cases hm : t.n ≤ m
    rotate_left
    · have hm' : m < t.n := by omega
      have HE : Hid (stepS L stop (pWM x.data.toList m) ⟨n, bad, at_⟩ = (failS L stop ⟨n1, false, at1⟩, none)) := Lib.hid (by rw [HST.out, HST2.out, if_neg (by unfold okNum; simp [hm])])
      clear hm
      have HN2 := Lib.hid (zfail_any B wB (some ⟨b, off, none⟩) N c L stop ⟨n1, false, at1⟩ HLN.out (by have := HBX.out; have := HSZ.out; omega) (HL.out.below HBB.out HBX.out) HN1.out)
      go_wp2_with fail
      refine HN2.out.mono ?_
      rintro e w2 ⟨rfl, hb⟩
      have HB2 : Hid (Below w.heap.size w w2) := Lib.hid (HBB.out.trans (hb.mono HBB.out.size))
      have HR2 := Lib.hid (HRB.out.ext hb)
      clear hb m0 m1 m2 m3 m4
      obtain ⟨s5, hs5⟩ : ∃ s, failS L stop ⟨n1, false, at1⟩ = s := ⟨_, rfl⟩
      have HS5 := Lib.hid hs5
      rw [hs5]
      clear hs5
      obtain ⟨n5, b5, at5⟩ := s5
      unfold pv pvC
      simp only
      have r0 := HR2.out.cell 0
      have r1 := HR2.out.cell 1
      have r2 := HR2.out.cell 2
      have r3 := HR2.out.cell 3
      have r4 := HR2.out.cell 4
      simp at r0 r1 r2 r3 r4
      have g0 := HR2.out.free 0
      have g1 := HR2.out.free 1
      have g2 := HR2.out.free 2
      have g3 := HR2.out.free 3
      have g4 := HR2.out.free 4
      go_wp2
      refine bodyPost_ret (v := .tuple #[.int .i64 0, pv0 (some ⟨b, off, none⟩) N c stop n5 b5 at5]) (by simp [results, Tryz.results67, go_sem, r0, r1, r2, r3, r4]) rfl ⟨by rw [HE.out, HS5.out]; rfl, ?_⟩
      have hSw : w.heap.size ≤ S + 1 := by have := HSZ.out; omega
      exact (((((HB2.out.setCell (p := ⟨S + 1, 0, none⟩) hSw _).setCell (p := ⟨S + 1, 1, none⟩) hSw _).setCell (p := ⟨S + 1, 2, none⟩) hSw _).setCell (p := ⟨S + 1, 3, none⟩) hSw _).setCell (p := ⟨S + 1, 4, none⟩) hSw _)
    have hm' : ¬ m < t.n := by omega
    have HE : Hid (stepS L stop (pWM x.data.toList m) ⟨n, bad, at_⟩ = (⟨n1 + 1, false, at1⟩, some t.n)) := Lib.hid (by rw [HST.out, HST2.out, if_pos (by unfold okNum; rw [HK.out]; simp [hm])])
    have r0 := HRB.out.cell 0
    have r1 := HRB.out.cell 1
    have r2 := HRB.out.cell 2
    have r3 := HRB.out.cell 3
    have r4 := HRB.out.cell 4
    simp at r0 r1 r2 r3 r4
    have f0 := HCB.out.free 0
    have f1 := HCB.out.free 1
    have f2 := HCB.out.free 2
    have f3 := HCB.out.free 3
    have f4 := HCB.out.free 4
    have h0 := HRB.out.free 0
    have h1 := HRB.out.free 1
    have h2 := HRB.out.free 2
    have h3 := HRB.out.free 3
    have h4 := HRB.out.free 4
    obtain ⟨wA, hwA⟩ : ∃ W, wB.setCell ⟨S, 1, none⟩ (.int .i64 ((n1 : Int) + 1)) = W := ⟨_, rfl⟩
    have HCA : Hid (CellsN wA S #[.slice (some ⟨b, off, none⟩) N c, .int .i64 ((n1 : Int) + 1), .int .i64 stop, .bool false, .int .i64 at1]) := Lib.hid (by rw [← hwA]; have := HCB.out.set 1 (.int .i64 ((n1 : Int) + 1)); simpa using this)
    have HRA : Hid (CellsN wA (S + 1) #[.slice none 0 0, .int .i64 0, .int .i64 0, .bool false, .int .i64 0]) := Lib.hid (by rw [← hwA]; exact HRB.out.other (by omega) 1 _)
    have HBA : Hid (Below w.heap.size w wA) := Lib.hid (by rw [← hwA]; exact HBB.out.setCell (p := ⟨S, 1, none⟩) (by have := HSZ.out; show w.heap.size ≤ S; omega) _)
    have HWA := Lib.hid hwA
    clear hwA
    go_wp2
    rw [HWA.out]
    clear m0 m1 m2 m3 m4 r0 r1 r2 r3 r4 f0 f1 f2 f3 f4 h0 h1 h2 h3 h4
    have m0 := HCA.out.cell 0
    have m1 := HCA.out.cell 1
    have m2 := HCA.out.cell 2
    have m3 := HCA.out.cell 3
    have m4 := HCA.out.cell 4
    simp at m0 m1 m2 m3 m4
    go_still_tail 3, (by kernel_rfl)
    change wpList _ _ _ _ _ wA.drew
    have r0 := HRA.out.cell 0
    have r1 := HRA.out.cell 1
    have r2 := HRA.out.cell 2
    have r3 := HRA.out.cell 3
    have r4 := HRA.out.cell 4
    simp at r0 r1 r2 r3 r4
    have g0 := HRA.out.free 0
    have g1 := HRA.out.free 1
    have g2 := HRA.out.free 2
    have g3 := HRA.out.free 3
    have g4 := HRA.out.free 4
    go_wp2
    refine bodyPost_ret (v := .tuple #[.int .i64 t.n, pv0 (some ⟨b, off, none⟩) N c stop (n1 + 1) false at1]) (by simp [results, Tryz.results67, go_sem, r0, r1, r2, r3, r4]) rfl ⟨by rw [HE.out]; rfl, ?_⟩
    have hSw : w.heap.size ≤ S + 1 := by have := HSZ.out; omega
    exact below_drewZ (((((HBA.out.setCell (p := ⟨S + 1, 0, none⟩) hSw _).setCell (p := ⟨S + 1, 1, none⟩) hSw _).setCell (p := ⟨S + 1, 2, none⟩) hSw _).setCell (p := ⟨S + 1, 3, none⟩) hSw _).setCell (p := ⟨S + 1, 4, none⟩) hSw _)
set_option maxHeartbeats 4000000 in
set_option maxRecDepth 100000 in
theorem zname_any (B : Nat) (w : World) (a : Option Addr) (N c : Nat) (L : List Tok) (stop : Int) (s : PSt) (x : ByteArray) (hx : x.data.toList.length ≠ 1) (hv : ∀ t ∈ L, validB t = true) (hN : L.length = N) (hB : B ≤ w.heap.size) (hl : IsToks B w (.slice a N c) L) (hn : s.n ≤ N) :
    Calls Tryz.prog 66 #[pv a N c stop s, .string x] w fun e w' => e = .returned (.tuple #[strV ((stepS L stop (pWN x.data.toList) s).2.getD []), pv a N c stop (stepS L stop (pWN x.data.toList) s).1]) ∧ Below w.heap.size w w' := by
  obtain ⟨n, bad, at_⟩ := s
  have HN : Hid (n ≤ N) := Lib.hid hn
  have HLN := Lib.hid hN
  have HL := Lib.hid hl
  have HBX := Lib.hid hB
  obtain ⟨S, hS⟩ : ∃ S, w.heap.size = S := ⟨_, rfl⟩
  have HSZ := Lib.hid hS
  obtain ⟨a', c', he, hc1, hc2, hc3⟩ := hl.form
  injection he with he1 he2 he3
  subst he1
  subst he3
  rw [hN] at hc1 hc3
  clear hl hn hB hN he2
  unfold pv pvC
  simp only
  have HST := Lib.hid (wn_step (L := L) (stop := stop) (s := ⟨n, bad, at_⟩) hv hx (by rw [HLN.out]; exact HN.out))
  clear hx hv
  obtain ⟨W0, hW0⟩ : ∃ W, (w.alloc (.cells #[.slice a N c, .int .i64 (n : Int), .int .i64 stop, .bool bad, .int .i64 at_] 40)).alloc (.cells #[.slice none 0 0, .int .i64 0, .int .i64 0, .bool false, .int .i64 0] 40) = W := ⟨_, rfl⟩
  have HB0 : Hid (Below w.heap.size w W0) := Lib.hid (by rw [← hW0]; exact (box_below' _ _).alloc (by simp) _)
  have HC0 : Hid (CellsN W0 S #[.slice a N c, .int .i64 (n : Int), .int .i64 stop, .bool bad, .int .i64 at_]) := Lib.hid (by rw [← hW0, ← hS]; exact (CellsN.new w _ _).alloc _)
  have HR0 : Hid (CellsN W0 (S + 1) #[.slice none 0 0, .int .i64 0, .int .i64 0, .bool false, .int .i64 0]) := Lib.hid (by rw [← hW0, ← hS]; have := CellsN.new (w.alloc (.cells #[.slice a N c, .int .i64 (n : Int), .int .i64 stop, .bool bad, .int .i64 at_] 40)) #[.slice none 0 0, .int .i64 0, .int .i64 0, .bool false, .int .i64 0] 40; rw [World.size_alloc] at this; exact this)
  have hz0 : S + 2 ≤ W0.heap.size := by rw [← hW0]; simp [hS]
  have HW0 := Lib.hid hW0
  clear hW0
  go_enter Tryz.func66, Tryz.ntmps66
  go_upto_region 1 with fail
  try rw [HW0.out]
  try rw [hS]
  clear hS
  have m0 := HC0.out.cell 0
  have m1 := HC0.out.cell 1
  have m2 := HC0.out.cell 2
  have m3 := HC0.out.cell 3
  have m4 := HC0.out.cell 4
  simp at m0 m1 m2 m3 m4
  have HWD := Lib.hid (zword_any B W0 a N c L stop ⟨n, bad, at_⟩ x HLN.out (by have := HBX.out; have := HSZ.out; omega) (HL.out.below HB0.out HBX.out) HN.out)
  go_wp2_with fail
  refine HWD.out.mono ?_
  rintro e w1 ⟨rfl, hb⟩
  have HB1 : Hid (Below w.heap.size w w1) := Lib.hid (HB0.out.trans (hb.mono HB0.out.size))
  have HC1 := Lib.hid (HC0.out.ext hb)
  have HR1 := Lib.hid (HR0.out.ext hb)
  have hz1 : S + 2 ≤ w1.heap.size := Nat.le_trans hz0 hb.size
  clear hb m0 m1 m2 m3 m4
  have hn1 : (expS L stop ⟨n, bad, at_⟩ 1 x.data.toList).n ≤ N := by rw [← HLN.out]; exact exp_n (by rw [HLN.out]; exact HN.out)
  obtain ⟨s1, hs1⟩ : ∃ s, expS L stop ⟨n, bad, at_⟩ 1 x.data.toList = s := ⟨_, rfl⟩
  rw [hs1] at HST hn1 ⊢
  clear hs1
  obtain ⟨n1, b1, at1⟩ := s1
  have HN1 : Hid (n1 ≤ N) := Lib.hid hn1
  unfold pv pvC
  simp only
  clear hn1
  have m0 := HC1.out.cell 0
  have m1 := HC1.out.cell 1
  have m2 := HC1.out.cell 2
  have m3 := HC1.out.cell 3
  have m4 := HC1.out.cell 4
  simp at m0 m1 m2 m3 m4
  have f0 := HC1.out.free 0
  have f1 := HC1.out.free 1
  have f2 := HC1.out.free 2
  have f3 := HC1.out.free 3
  have f4 := HC1.out.free 4
  obtain ⟨wB, hwB⟩ : ∃ W, ((((w1.setCell ⟨S, 0, none⟩ (.slice a N c)).setCell ⟨S, 1, none⟩ (.int .i64 (n1 : Int))).setCell ⟨S, 2, none⟩ (.int .i64 stop)).setCell ⟨S, 3, none⟩ (.bool b1)).setCell ⟨S, 4, none⟩ (.int .i64 at1) = W := ⟨_, rfl⟩
  have HCB : Hid (CellsN wB S #[.slice a N c, .int .i64 (n1 : Int), .int .i64 stop, .bool b1, .int .i64 at1]) := Lib.hid (by rw [← hwB]; have := ((((HC1.out.set 0 (.slice a N c)).set 1 (.int .i64 (n1 : Int))).set 2 (.int .i64 stop)).set 3 (.bool b1)).set 4 (.int .i64 at1); simpa using this)
  have HRB : Hid (CellsN wB (S + 1) #[.slice none 0 0, .int .i64 0, .int .i64 0, .bool false, .int .i64 0]) := Lib.hid (by rw [← hwB]; exact ((((HR1.out.other (by omega) 0 _).other (by omega) 1 _).other (by omega) 2 _).other (by omega) 3 _).other (by omega) 4 _)
  have HBB : Hid (Below w.heap.size w wB) := Lib.hid (by rw [← hwB]; have hSv : w.heap.size ≤ S := by { have := HSZ.out; omega }; exact (((((HB1.out.setCell (p := ⟨S, 0, none⟩) hSv _).setCell (p := ⟨S, 1, none⟩) hSv _).setCell (p := ⟨S, 2, none⟩) hSv _).setCell (p := ⟨S, 3, none⟩) hSv _).setCell (p := ⟨S, 4, none⟩) hSv _))
  have hzB : S + 2 ≤ wB.heap.size := by rw [← hwB]; simpa using hz1
  have HWB := Lib.hid hwB
  clear hwB
  go_upto_region 2 with fail
  rw [HWB.out]
  clear m0 m1 m2 m3 m4 f0 f1 f2 f3 f4
  have m0 := HCB.out.cell 0
  have m1 := HCB.out.cell 1
  have m2 := HCB.out.cell 2
  have m3 := HCB.out.cell 3
  have m4 := HCB.out.cell 4
  simp at m0 m1 m2 m3 m4
  have HBR := Lib.hid (zbare_any B wB a N c L stop ⟨n1, b1, at1⟩ HLN.out (by have := HBX.out; have := HSZ.out; omega) (HL.out.below HBB.out HBX.out) HN1.out)
  go_wp2_with fail
  refine HBR.out.mono ?_
  rintro e w2 ⟨rfl, hb⟩
  have HB2 : Hid (Below w.heap.size w w2) := Lib.hid (HBB.out.trans (hb.mono HBB.out.size))
  have HR2 := Lib.hid (HRB.out.ext hb)
  clear hb m0 m1 m2 m3 m4
  obtain ⟨s5, hs5⟩ : ∃ s, stepS L stop pName ⟨n1, b1, at1⟩ = s := ⟨_, rfl⟩
  have HS5 := Lib.hid hs5
  rw [hs5]
  clear hs5
  obtain ⟨⟨n5, b5, at5⟩, o5⟩ := s5
  obtain ⟨y, hy⟩ : ∃ y, (⟨(o5.getD []).toArray⟩ : ByteArray) = y := ⟨_, rfl⟩
  have HY := Lib.hid hy
  unfold pv pvC strV
  simp only
  rw [hy]
  clear hy
  have r0 := HR2.out.cell 0
  have r1 := HR2.out.cell 1
  have r2 := HR2.out.cell 2
  have r3 := HR2.out.cell 3
  have r4 := HR2.out.cell 4
  simp at r0 r1 r2 r3 r4
  have g0 := HR2.out.free 0
  have g1 := HR2.out.free 1
  have g2 := HR2.out.free 2
  have g3 := HR2.out.free 3
  have g4 := HR2.out.free 4
  go_wp2
  refine bodyPost_ret (v := .tuple #[.string y, pv0 a N c stop n5 b5 at5]) (by simp [results, Tryz.results66, go_sem, r0, r1, r2, r3, r4]) rfl ⟨by rw [HST.out, HS5.out, ← HY.out], ?_⟩
  have hSw : w.heap.size ≤ S + 1 := by have := HSZ.out; omega
  exact (((((HB2.out.setCell (p := ⟨S + 1, 0, none⟩) hSw _).setCell (p := ⟨S + 1, 1, none⟩) hSw _).setCell (p := ⟨S + 1, 2, none⟩) hSw _).setCell (p := ⟨S + 1, 3, none⟩) hSw _).setCell (p := ⟨S + 1, 4, none⟩) hSw _)
end Go.Proofs.YtfnmidddgjlipaaGreatDoor

/-
  Layer 17: the walk of the specification's parser, fourth part: otherwise, against (printed by tools/genz5.py).
-/
set_option linter.unusedVariables false
set_option linter.unusedSimpArgs false
namespace Go.Proofs.YtfnmidddgjlipaaGreatDoor
open Go.RowKit

set_option maxHeartbeats 4000000 in
set_option maxRecDepth 100000 in
theorem zelse_any (B : Nat) (w : World) (a : Option Addr) (N c : Nat) (L : List Tok) (stop : Int) (s : PSt) (hv : ∀ t ∈ L, validB t = true) (hN : L.length = N) (hB : B ≤ w.heap.size) (hl : IsToks B w (.slice a N c) L) (hn : s.n ≤ N) :
    Calls Tryz.prog 71 #[pv a N c stop s] w fun e w' => (∃ m, e = .returned (.tuple #[.int .i64 m, pv a N c stop (stepS L stop pElse s).1]) ∧ (∀ y, (stepS L stop pElse s).2 = some y → m = y) ∧ (m = 0 ∨ m = 1 ∨ m = 2)) ∧ Below w.heap.size w w' := by
  obtain ⟨n, bad, at_⟩ := s
  have HN : Hid (n ≤ N) := Lib.hid hn
  have HLN := Lib.hid hN
  have HL := Lib.hid hl
  have HBX := Lib.hid hB
  obtain ⟨S, hS⟩ : ∃ S, w.heap.size = S := ⟨_, rfl⟩
  have HSZ := Lib.hid hS
  obtain ⟨a', c', he, hc1, hc2, hc3⟩ := hl.form
  injection he with he1 he2 he3
  subst he1
  subst he3
  rw [hN] at hc1 hc3
  clear hl hn hB hN he2
  unfold pv pvC
  simp only
  have HST := Lib.hid (else_step (L := L) (stop := stop) (s := ⟨n, bad, at_⟩) hv (by rw [HLN.out]; exact HN.out))
  clear hv
  obtain ⟨W0, hW0⟩ : ∃ W, (w.alloc (.cells #[.slice a N c, .int .i64 (n : Int), .int .i64 stop, .bool bad, .int .i64 at_] 40)).alloc (.cells #[.slice none 0 0, .int .i64 0, .int .i64 0, .bool false, .int .i64 0] 40) = W := ⟨_, rfl⟩
  have HB0 : Hid (Below w.heap.size w W0) := Lib.hid (by rw [← hW0]; exact (box_below' _ _).alloc (by simp) _)
  have HC0 : Hid (CellsN W0 S #[.slice a N c, .int .i64 (n : Int), .int .i64 stop, .bool bad, .int .i64 at_]) := Lib.hid (by rw [← hW0, ← hS]; exact (CellsN.new w _ _).alloc _)
  have HR0 : Hid (CellsN W0 (S + 1) #[.slice none 0 0, .int .i64 0, .int .i64 0, .bool false, .int .i64 0]) := Lib.hid (by rw [← hW0, ← hS]; have := CellsN.new (w.alloc (.cells #[.slice a N c, .int .i64 (n : Int), .int .i64 stop, .bool bad, .int .i64 at_] 40)) #[.slice none 0 0, .int .i64 0, .int .i64 0, .bool false, .int .i64 0] 40; rw [World.size_alloc] at this; exact this)
  have hz0 : S + 2 ≤ W0.heap.size := by rw [← hW0]; simp [hS]
  have HW0 := Lib.hid hW0
  clear hW0
  go_enter Tryz.func71, Tryz.ntmps71
  go_upto_region 1 with fail
  try rw [HW0.out]
  try rw [hS]
  clear hS
  have m0 := HC0.out.cell 0
  have m1 := HC0.out.cell 1
  have m2 := HC0.out.cell 2
  have m3 := HC0.out.cell 3
  have m4 := HC0.out.cell 4
  simp at m0 m1 m2 m3 m4
  have HNXwa : Hid (Calls Tryz.prog 69 #[pv a N c stop ⟨n, bad, at_⟩, .int .i64 1, .string ⟨#[101, 108, 115, 101]⟩] W0 fun e w' => e = .returned (.bool (nextB L ⟨n, bad, at_⟩ 1 wElse)) ∧ Below W0.heap.size W0 w') := Lib.hid (znext_any B W0 a N c L stop ⟨n, bad, at_⟩ 1 ⟨#[101, 108, 115, 101]⟩ HLN.out (by have := HBX.out; have := HSZ.out; omega) (HL.out.below HB0.out HBX.out) HN.out)
  go_wp2_with fail
  refine HNXwa.out.mono ?_
  rintro e wa ⟨rfl, hb⟩
  have HBwa : Hid (Below w.heap.size w wa) := Lib.hid (HB0.out.trans (hb.mono HB0.out.size))
  have HCwa := Lib.hid (HC0.out.ext hb)
  have HRwa := Lib.hid (HR0.out.ext hb)
  have hzwa : S + 2 ≤ wa.heap.size := Nat.le_trans (by omega) hb.size
  clear hb m0 m1 m2 m3 m4
  obtain ⟨nbwa, hnb⟩ : ∃ b, nextB L ⟨n, bad, at_⟩ 1 wElse = b := ⟨_, rfl⟩
  have HNBwa := Lib.hid hnb
  rw [hnb]
  clear hnb
  rw [HNBwa.out] at HST
  cases nbwa with
  | false =>
    have HE : Hid (stepS L stop pElse ⟨n, bad, at_⟩ = (⟨n, bad, at_⟩, if bad then none else some 0)) := Lib.hid HST.out
    have m0 := HCwa.out.cell 0
    have m1 := HCwa.out.cell 1
    have m2 := HCwa.out.cell 2
    have m3 := HCwa.out.cell 3
    have m4 := HCwa.out.cell 4
    simp at m0 m1 m2 m3 m4
    go_wp2
    go_still_tail 2, (by kernel_rfl)
    change wpList _ _ _ _ _ wa.drew
    clear m0 m1 m2 m3 m4
    have r0 := HRwa.out.cell 0
    have r1 := HRwa.out.cell 1
    have r2 := HRwa.out.cell 2
    have r3 := HRwa.out.cell 3
    have r4 := HRwa.out.cell 4
    simp at r0 r1 r2 r3 r4
    have g0 := HRwa.out.free 0
    have g1 := HRwa.out.free 1
    have g2 := HRwa.out.free 2
    have g3 := HRwa.out.free 3
    have g4 := HRwa.out.free 4
    go_wp2
    refine bodyPost_ret (v := .tuple #[.int .i64 0, pv0 a N c stop (n) bad at_]) (by simp [results, Tryz.results71, go_sem, r0, r1, r2, r3, r4]) rfl ⟨⟨0, by rw [HE.out], fun y hy => by rw [HE.out] at hy; simp only at hy; split at hy; cases hy; exact Option.some.inj hy, .inl rfl⟩, ?_⟩
    have hSw : w.heap.size ≤ S + 1 := by have := HSZ.out; omega
    exact below_drewZ (((((HBwa.out.setCell (p := ⟨S + 1, 0, none⟩) hSw _).setCell (p := ⟨S + 1, 1, none⟩) hSw _).setCell (p := ⟨S + 1, 2, none⟩) hSw _).setCell (p := ⟨S + 1, 3, none⟩) hSw _).setCell (p := ⟨S + 1, 4, none⟩) hSw _)
  | true =>
    have HST1 : Hid (stepS L stop pElse ⟨n, bad, at_⟩ = (if nextB L (expS L stop ⟨n, bad, at_⟩ 1 wElse) 1 wHold then (expS L stop (expS L stop ⟨n, bad, at_⟩ 1 wElse) 1 wHold, some 1) else (expS L stop (expS L stop ⟨n, bad, at_⟩ 1 wElse) 1 wForward, if nextB L (expS L stop ⟨n, bad, at_⟩ 1 wElse) 1 wForward then some 2 else none))) := Lib.hid HST.out
    clear HST
    have HST := HST1
    clear HST1
    have m0 := HCwa.out.cell 0
    have m1 := HCwa.out.cell 1
    have m2 := HCwa.out.cell 2
    have m3 := HCwa.out.cell 3
    have m4 := HCwa.out.cell 4
    simp at m0 m1 m2 m3 m4
    have HWD : Hid (Calls Tryz.prog 70 #[pv a N c stop ⟨n, bad, at_⟩, .string ⟨#[101, 108, 115, 101]⟩] wa fun e w' => e = .returned (pv a N c stop (expS L stop ⟨n, bad, at_⟩ 1 wElse)) ∧ Below wa.heap.size wa w') := Lib.hid (zword_any B wa a N c L stop ⟨n, bad, at_⟩ ⟨#[101, 108, 115, 101]⟩ HLN.out (by have := HBX.out; have := HSZ.out; omega) (HL.out.below HBwa.out HBX.out) HN.out)
    go_wp2_with fail
    refine HWD.out.mono ?_
    rintro e w1 ⟨rfl, hb⟩
    have HB1 : Hid (Below w.heap.size w w1) := Lib.hid (HBwa.out.trans (hb.mono HBwa.out.size))
    have HC1 := Lib.hid (HCwa.out.ext hb)
    have HR1 := Lib.hid (HRwa.out.ext hb)
    have hz1 : S + 2 ≤ w1.heap.size := Nat.le_trans hzwa hb.size
    clear hb m0 m1 m2 m3 m4
    have hn1 : (expS L stop ⟨n, bad, at_⟩ 1 wElse).n ≤ N := by rw [← HLN.out]; exact exp_n (by rw [HLN.out]; exact HN.out)
    obtain ⟨s1, hs1⟩ : ∃ s, expS L stop ⟨n, bad, at_⟩ 1 wElse = s := ⟨_, rfl⟩
    rw [hs1] at HST hn1 ⊢
    clear hs1
    obtain ⟨n1, b1, at1⟩ := s1
    have HN1 : Hid (n1 ≤ N) := Lib.hid hn1
    unfold pv pvC
    simp only
    clear hn1
    have m0 := HC1.out.cell 0
    have m1 := HC1.out.cell 1
    have m2 := HC1.out.cell 2
    have m3 := HC1.out.cell 3
    have m4 := HC1.out.cell 4
    simp at m0 m1 m2 m3 m4
    have f0 := HC1.out.free 0
    have f1 := HC1.out.free 1
    have f2 := HC1.out.free 2
    have f3 := HC1.out.free 3
    have f4 := HC1.out.free 4
    obtain ⟨wB, hwB⟩ : ∃ W, ((((w1.setCell ⟨S, 0, none⟩ (.slice a N c)).setCell ⟨S, 1, none⟩ (.int .i64 (n1 : Int))).setCell ⟨S, 2, none⟩ (.int .i64 stop)).setCell ⟨S, 3, none⟩ (.bool b1)).setCell ⟨S, 4, none⟩ (.int .i64 at1) = W := ⟨_, rfl⟩
    have HCB : Hid (CellsN wB S #[.slice a N c, .int .i64 (n1 : Int), .int .i64 stop, .bool b1, .int .i64 at1]) := Lib.hid (by rw [← hwB]; have := ((((HC1.out.set 0 (.slice a N c)).set 1 (.int .i64 (n1 : Int))).set 2 (.int .i64 stop)).set 3 (.bool b1)).set 4 (.int .i64 at1); simpa using this)
    have HRB : Hid (CellsN wB (S + 1) #[.slice none 0 0, .int .i64 0, .int .i64 0, .bool false, .int .i64 0]) := Lib.hid (by rw [← hwB]; exact ((((HR1.out.other (by omega) 0 _).other (by omega) 1 _).other (by omega) 2 _).other (by omega) 3 _).other (by omega) 4 _)
    have HBB : Hid (Below w.heap.size w wB) := Lib.hid (by rw [← hwB]; have hSv : w.heap.size ≤ S := by { have := HSZ.out; omega }; exact (((((HB1.out.setCell (p := ⟨S, 0, none⟩) hSv _).setCell (p := ⟨S, 1, none⟩) hSv _).setCell (p := ⟨S, 2, none⟩) hSv _).setCell (p := ⟨S, 3, none⟩) hSv _).setCell (p := ⟨S, 4, none⟩) hSv _))
    have hzB : S + 2 ≤ wB.heap.size := by rw [← hwB]; simpa using hz1
    have HWB := Lib.hid hwB
    clear hwB
    go_upto_region 4 with fail
    rw [HWB.out]
    clear m0 m1 m2 m3 m4 f0 f1 f2 f3 f4
    have m0 := HCB.out.cell 0
    have m1 := HCB.out.cell 1
    have m2 := HCB.out.cell 2
    have m3 := HCB.out.cell 3
    have m4 := HCB.out.cell 4
    simp at m0 m1 m2 m3 m4
    have HNXwc : Hid (Calls Tryz.prog 69 #[pv a N c stop ⟨n1, b1, at1⟩, .int .i64 1, .string ⟨#[104, 111, 108, 100]⟩] wB fun e w' => e = .returned (.bool (nextB L ⟨n1, b1, at1⟩ 1 wHold)) ∧ Below wB.heap.size wB w') := Lib.hid (znext_any B wB a N c L stop ⟨n1, b1, at1⟩ 1 ⟨#[104, 111, 108, 100]⟩ HLN.out (by have := HBX.out; have := HSZ.out; omega) (HL.out.below HBB.out HBX.out) HN1.out)
    go_wp2_with fail
    refine HNXwc.out.mono ?_
    rintro e wc ⟨rfl, hb⟩
    have HBwc : Hid (Below w.heap.size w wc) := Lib.hid (HBB.out.trans (hb.mono HBB.out.size))
    have HCwc := Lib.hid (HCB.out.ext hb)
    have HRwc := Lib.hid (HRB.out.ext hb)
    have hzwc : S + 2 ≤ wc.heap.size := Nat.le_trans (by omega) hb.size
    clear hb m0 m1 m2 m3 m4
    obtain ⟨nbwc, hnb⟩ : ∃ b, nextB L ⟨n1, b1, at1⟩ 1 wHold = b := ⟨_, rfl⟩
    have HNBwc := Lib.hid hnb
    rw [hnb]
    clear hnb
    rw [HNBwc.out] at HST
    cases nbwc with
    | true =>
      have HE : Hid (stepS L stop pElse ⟨n, bad, at_⟩ = (expS L stop ⟨n1, b1, at1⟩ 1 wHold, some 1)) := Lib.hid HST.out
      have HWR : Hid (Calls Tryz.prog 70 #[pv a N c stop ⟨n1, b1, at1⟩, .string ⟨#[104, 111, 108, 100]⟩] wc fun e w' => e = .returned (pv a N c stop (expS L stop ⟨n1, b1, at1⟩ 1 wHold)) ∧ Below wc.heap.size wc w') := Lib.hid (zword_any B wc a N c L stop ⟨n1, b1, at1⟩ ⟨#[104, 111, 108, 100]⟩ HLN.out (by have := HBX.out; have := HSZ.out; omega) (HL.out.below HBwc.out HBX.out) HN1.out)
      have m0 := HCwc.out.cell 0
      have m1 := HCwc.out.cell 1
      have m2 := HCwc.out.cell 2
      have m3 := HCwc.out.cell 3
      have m4 := HCwc.out.cell 4
      simp at m0 m1 m2 m3 m4
      go_wp2_with fail
      refine HWR.out.mono ?_
      rintro e w9 ⟨rfl, hb⟩
      have HB9 : Hid (Below w.heap.size w w9) := Lib.hid (HBwc.out.trans (hb.mono HBwc.out.size))
      have HR9 := Lib.hid (HRwc.out.ext hb)
      clear hb m0 m1 m2 m3 m4
      obtain ⟨s5, hs5⟩ : ∃ s, expS L stop ⟨n1, b1, at1⟩ 1 wHold = s := ⟨_, rfl⟩
      have HS5 := Lib.hid hs5
      rw [hs5]
      clear hs5
      obtain ⟨n5, b5, at5⟩ := s5
      unfold pv pvC
      simp only
      have r0 := HR9.out.cell 0
      have r1 := HR9.out.cell 1
      have r2 := HR9.out.cell 2
      have r3 := HR9.out.cell 3
      have r4 := HR9.out.cell 4
      simp at r0 r1 r2 r3 r4
      have g0 := HR9.out.free 0
      have g1 := HR9.out.free 1
      have g2 := HR9.out.free 2
      have g3 := HR9.out.free 3
      have g4 := HR9.out.free 4
      go_wp2
      refine bodyPost_ret (v := .tuple #[.int .i64 1, pv0 a N c stop n5 b5 at5]) (by simp [results, Tryz.results71, go_sem, r0, r1, r2, r3, r4]) rfl ⟨⟨1, by rw [HE.out, HS5.out], fun y hy => by rw [HE.out] at hy; exact Option.some.inj hy, .inr (.inl rfl)⟩, ?_⟩
      have hSw : w.heap.size ≤ S + 1 := by have := HSZ.out; omega
      exact (((((HB9.out.setCell (p := ⟨S + 1, 0, none⟩) hSw _).setCell (p := ⟨S + 1, 1, none⟩) hSw _).setCell (p := ⟨S + 1, 2, none⟩) hSw _).setCell (p := ⟨S + 1, 3, none⟩) hSw _).setCell (p := ⟨S + 1, 4, none⟩) hSw _)
    | false =>
      have HE : Hid (stepS L stop pElse ⟨n, bad, at_⟩ = (expS L stop ⟨n1, b1, at1⟩ 1 wForward, if nextB L ⟨n1, b1, at1⟩ 1 wForward then some 2 else none)) := Lib.hid HST.out
      have HWR : Hid (Calls Tryz.prog 70 #[pv a N c stop ⟨n1, b1, at1⟩, .string ⟨#[102, 111, 114, 119, 97, 114, 100]⟩] wc fun e w' => e = .returned (pv a N c stop (expS L stop ⟨n1, b1, at1⟩ 1 wForward)) ∧ Below wc.heap.size wc w') := Lib.hid (zword_any B wc a N c L stop ⟨n1, b1, at1⟩ ⟨#[102, 111, 114, 119, 97, 114, 100]⟩ HLN.out (by have := HBX.out; have := HSZ.out; omega) (HL.out.below HBwc.out HBX.out) HN1.out)
      have m0 := HCwc.out.cell 0
      have m1 := HCwc.out.cell 1
      have m2 := HCwc.out.cell 2
      have m3 := HCwc.out.cell 3
      have m4 := HCwc.out.cell 4
      simp at m0 m1 m2 m3 m4
      go_wp2_with fail
      refine HWR.out.mono ?_
      rintro e w9 ⟨rfl, hb⟩
      have HB9 : Hid (Below w.heap.size w w9) := Lib.hid (HBwc.out.trans (hb.mono HBwc.out.size))
      have HR9 := Lib.hid (HRwc.out.ext hb)
      clear hb m0 m1 m2 m3 m4
      obtain ⟨s5, hs5⟩ : ∃ s, expS L stop ⟨n1, b1, at1⟩ 1 wForward = s := ⟨_, rfl⟩
      have HS5 := Lib.hid hs5
      rw [hs5]
      clear hs5
      obtain ⟨n5, b5, at5⟩ := s5
      unfold pv pvC
      simp only
      have r0 := HR9.out.cell 0
      have r1 := HR9.out.cell 1
      have r2 := HR9.out.cell 2
      have r3 := HR9.out.cell 3
      have r4 := HR9.out.cell 4
      simp at r0 r1 r2 r3 r4
      have g0 := HR9.out.free 0
      have g1 := HR9.out.free 1
      have g2 := HR9.out.free 2
      have g3 := HR9.out.free 3
      have g4 := HR9.out.free 4
      go_wp2
      refine bodyPost_ret (v := .tuple #[.int .i64 2, pv0 a N c stop n5 b5 at5]) (by simp [results, Tryz.results71, go_sem, r0, r1, r2, r3, r4]) rfl ⟨⟨2, by rw [HE.out, HS5.out], (fun y hy => by rw [HE.out] at hy; simp only at hy; split at hy; exact Option.some.inj hy; cases hy), .inr (.inr rfl)⟩, ?_⟩
      have hSw : w.heap.size ≤ S + 1 := by have := HSZ.out; omega
      exact (((((HB9.out.setCell (p := ⟨S + 1, 0, none⟩) hSw _).setCell (p := ⟨S + 1, 1, none⟩) hSw _).setCell (p := ⟨S + 1, 2, none⟩) hSw _).setCell (p := ⟨S + 1, 3, none⟩) hSw _).setCell (p := ⟨S + 1, 4, none⟩) hSw _)
end Go.Proofs.YtfnmidddgjlipaaGreatDoor

/-
  Layer 17: the walk of the specification's parser, fifth part: against (printed by tools/genz6.py).
-/
set_option linter.unusedVariables false
set_option linter.unusedSimpArgs false
namespace Go.Proofs.YtfnmidddgjlipaaGreatDoor
open Go.RowKit

theorem strs_keep {C : Nat} {w w' : World} {v : Value} {xs : List Str} (h : OwnStrs C w v xs) (hk : ∀ q, v.ownBlock = some q → w'.heap[q]? = w.heap[q]?) : OwnStrs C w' v xs := by
  obtain ⟨vals, ⟨h0, h1⟩, h2, h3, h4⟩ := h
  refine ⟨vals, ⟨h0, ?_⟩, h2, h3, h4⟩
  rcases h1 with ⟨rfl, hn⟩ | ⟨g, cap, cur, rfl, k1, k2, k3⟩
  · exact .inl ⟨rfl, hn⟩
  · exact .inr ⟨g, cap, cur, rfl, k1, (hk g rfl).trans k2, k3⟩
theorem strs_low {C b i : Nat} {w : World} {v u : Value} {xs : List Str} (h : OwnStrs C w v xs) (hb : b < C) : OwnStrs C (w.setCell ⟨b, i, none⟩ u) v xs :=
  strs_keep h fun q hq => (grown_setCell w ⟨b, i, none⟩ u).block q (h.lt q hq).2 (by intro e; have e2 : q = b := Option.some.inj e; have := (h.lt q hq).1; omega)
theorem strs_mono {C C' : Nat} {w : World} {v : Value} {xs : List Str} (h : OwnStrs C w v xs) (hC : C' ≤ C) : OwnStrs C' w v xs := by
  obtain ⟨vals, ⟨h0, h1⟩, h2, h3, h4⟩ := h
  refine ⟨vals, ⟨h0, ?_⟩, h2, h3, h4⟩
  rcases h1 with ⟨rfl, hn⟩ | ⟨g, cap, cur, rfl, k1, k2, k3⟩
  · exact .inl ⟨rfl, hn⟩
  · exact .inr ⟨g, cap, cur, rfl, by omega, k2, k3⟩
theorem wpList_yes' {P : Program} {ops : Array Oper} {rest : List Oper} {o : Oper} {a : Act} {w : World} {Q : Exit → Act → World → Prop} (hw : Region.wanted o (yielded ops a.tmps) = true)
    (h : ∀ K : Act → World → Prop, (∀ a w, wpList P ops Q rest a w → K a w) → o.wp P a w K Q) : wpList P ops Q (o :: rest) a w :=
  wpList_step fun K hK => by rw [if_pos hw]; exact h K hK
theorem strs_draw {C : Nat} {w : World} {v : Value} {xs : List Str} (h : OwnStrs C w v xs) : OwnStrs C w.drew v xs := strs_keep h fun q hq => rfl
set_option maxHeartbeats 8000000 in
set_option maxRecDepth 100000 in
theorem zagainst_any (B : Nat) (w : World) (a : Option Addr) (N c : Nat) (L : List Tok) (stop : Int) (s : PSt) (hv : ∀ t ∈ L, validB t = true) (hok : ∀ t ∈ L, okT t) (hNb : N ≤ 1000000000) (hN : L.length = N) (hB : B ≤ w.heap.size) (hl : IsToks B w (.slice a N c) L) (hn : s.n ≤ N) :
    Calls Tryz.prog 68 #[pv a N c stop s] w fun e w' => (∃ v zs, e = .returned (.tuple #[v, pv a N c stop (stepS L stop pAgainst s).1]) ∧ OwnStrs w.heap.size w' v zs ∧ ∀ y, (stepS L stop pAgainst s).2 = some y → zs = y) ∧ Below w.heap.size w w' := by
  obtain ⟨n, bad, at_⟩ := s
  have HN : Hid (n ≤ N) := Lib.hid hn
  have HLN := Lib.hid hN
  have HL := Lib.hid hl
  have HBX := Lib.hid hB
  obtain ⟨S, hS⟩ : ∃ S, w.heap.size = S := ⟨_, rfl⟩
  have HSZ := Lib.hid hS
  obtain ⟨a', c', he, hc1, hc2, hc3⟩ := hl.form
  injection he with he1 he2 he3
  subst he1
  subst he3
  rw [hN] at hc1 hc3
  clear hl hn hB hN he2
  unfold pv pvC
  simp only
  have HV := Lib.hid hv
  have HOKT := Lib.hid hok
  clear hv hok
  obtain ⟨W0, hW0⟩ : ∃ W, (w.alloc (.cells #[.slice a N c, .int .i64 (n : Int), .int .i64 stop, .bool bad, .int .i64 at_] 40)).alloc (.cells #[.slice none 0 0, .int .i64 0, .int .i64 0, .bool false, .int .i64 0] 40) = W := ⟨_, rfl⟩
  have HB0 : Hid (Below w.heap.size w W0) := Lib.hid (by rw [← hW0]; exact (box_below' _ _).alloc (by simp) _)
  have HC0 : Hid (CellsN W0 S #[.slice a N c, .int .i64 (n : Int), .int .i64 stop, .bool bad, .int .i64 at_]) := Lib.hid (by rw [← hW0, ← hS]; exact (CellsN.new w _ _).alloc _)
  have HR0 : Hid (CellsN W0 (S + 1) #[.slice none 0 0, .int .i64 0, .int .i64 0, .bool false, .int .i64 0]) := Lib.hid (by rw [← hW0, ← hS]; have := CellsN.new (w.alloc (.cells #[.slice a N c, .int .i64 (n : Int), .int .i64 stop, .bool bad, .int .i64 at_] 40)) #[.slice none 0 0, .int .i64 0, .int .i64 0, .bool false, .int .i64 0] 40; rw [World.size_alloc] at this; exact this)
  have hz0 : S + 2 ≤ W0.heap.size := by rw [← hW0]; simp [hS]
  have HW0 := Lib.hid hW0
  clear hW0
  go_enter Tryz.func68, Tryz.ntmps68
  go_upto_region 1 with fail
  try rw [HW0.out]
  try rw [hS]
  clear hS
  obtain ⟨W1, hW1⟩ : ∃ W, W0.alloc (.cells #[] 9) = W := ⟨_, rfl⟩
  have HB1 : Hid (Below w.heap.size w W1) := Lib.hid (by rw [← hW1]; exact HB0.out.alloc HB0.out.size _)
  have HC1 : Hid (CellsN W1 S #[.slice a N c, .int .i64 (n : Int), .int .i64 stop, .bool bad, .int .i64 at_]) := Lib.hid (by rw [← hW1]; exact HC0.out.alloc _)
  have HR1 : Hid (CellsN W1 (S + 1) #[.slice none 0 0, .int .i64 0, .int .i64 0, .bool false, .int .i64 0]) := Lib.hid (by rw [← hW1]; exact HR0.out.alloc _)
  have HO1 : Hid (OwnStrs (S + 2) W1 (.slice (some ⟨W0.heap.size, 0, none⟩) 0 0) []) := Lib.hid (by rw [← hW1]; exact OwnRecs.made rfl hz0)
  have hz1 : S + 2 ≤ W1.heap.size := by rw [← hW1]; simp; omega
  have HW1 := Lib.hid hW1
  clear hW1
  go_upto_region 2 with fail
  try rw [HW1.out]
  obtain ⟨G0, hG0⟩ : ∃ g, W0.heap.size = g := ⟨_, rfl⟩
  rw [hG0] at HO1
  try rw [hG0]
  clear hG0
  have m0 := HC1.out.cell 0
  have m1 := HC1.out.cell 1
  have m2 := HC1.out.cell 2
  have m3 := HC1.out.cell 3
  have m4 := HC1.out.cell 4
  simp at m0 m1 m2 m3 m4
  have HNXwa : Hid (Calls Tryz.prog 69 #[pv a N c stop ⟨n, bad, at_⟩, .int .i64 1, .string ⟨#[97, 103, 97, 105, 110, 115, 116]⟩] W1 fun e w' => e = .returned (.bool (nextB L ⟨n, bad, at_⟩ 1 wAgainst)) ∧ Below W1.heap.size W1 w') := Lib.hid (znext_any B W1 a N c L stop ⟨n, bad, at_⟩ 1 ⟨#[97, 103, 97, 105, 110, 115, 116]⟩ HLN.out (by have := HBX.out; have := HSZ.out; omega) (HL.out.below HB1.out HBX.out) HN.out)
  go_wp2_with fail
  refine HNXwa.out.mono ?_
  rintro e wa ⟨rfl, hb⟩
  have HBwa : Hid (Below w.heap.size w wa) := Lib.hid (HB1.out.trans (hb.mono HB1.out.size))
  have HCwa := Lib.hid (HC1.out.ext hb)
  have HRwa := Lib.hid (HR1.out.ext hb)
  have hzwa : S + 2 ≤ wa.heap.size := Nat.le_trans (by omega) hb.size
  have HOwa := Lib.hid (OwnRecs.below strK HO1.out hb hz1)
  clear hb m0 m1 m2 m3 m4
  obtain ⟨nbwa, hnb⟩ : ∃ b, nextB L ⟨n, bad, at_⟩ 1 wAgainst = b := ⟨_, rfl⟩
  have HNBwa := Lib.hid hnb
  rw [hnb]
  clear hnb
  cases nbwa with
  | false =>
    have HE : Hid (stepS L stop pAgainst ⟨n, bad, at_⟩ = (⟨n, bad, at_⟩, if bad then none else some [])) := Lib.hid (against_no HV.out (by rw [HLN.out]; exact HN.out) HNBwa.out)
    have m0 := HCwa.out.cell 0
    have m1 := HCwa.out.cell 1
    have m2 := HCwa.out.cell 2
    have m3 := HCwa.out.cell 3
    have m4 := HCwa.out.cell 4
    simp at m0 m1 m2 m3 m4
    go_wp2
    go_still_tail 3, (by kernel_rfl)
    change wpList _ _ _ _ _ wa.drew
    clear m0 m1 m2 m3 m4
    have r0 := HRwa.out.cell 0
    have r1 := HRwa.out.cell 1
    have r2 := HRwa.out.cell 2
    have r3 := HRwa.out.cell 3
    have r4 := HRwa.out.cell 4
    simp at r0 r1 r2 r3 r4
    have g0 := HRwa.out.free 0
    have g1 := HRwa.out.free 1
    have g2 := HRwa.out.free 2
    have g3 := HRwa.out.free 3
    have g4 := HRwa.out.free 4
    go_wp2
    refine bodyPost_ret (v := .tuple #[.slice (some ⟨G0, 0, none⟩) 0 0, pv0 a N c stop (n) bad at_]) (by simp [results, Tryz.results68, go_sem, r0, r1, r2, r3, r4]) rfl ⟨⟨_, [], by rw [HE.out], ?_, fun y hy => by rw [HE.out] at hy; simp only at hy; split at hy; cases hy; exact Option.some.inj hy⟩, ?_⟩
    · exact strs_mono (strs_draw (strs_low (strs_low (strs_low (strs_low (strs_low HOwa.out (b := S + 1) (by omega)) (b := S + 1) (by omega)) (b := S + 1) (by omega)) (b := S + 1) (by omega)) (b := S + 1) (by omega))) (by have := HSZ.out; omega)
    have hSw : w.heap.size ≤ S + 1 := by have := HSZ.out; omega
    exact below_drewZ (((((HBwa.out.setCell (p := ⟨S + 1, 0, none⟩) hSw _).setCell (p := ⟨S + 1, 1, none⟩) hSw _).setCell (p := ⟨S + 1, 2, none⟩) hSw _).setCell (p := ⟨S + 1, 3, none⟩) hSw _).setCell (p := ⟨S + 1, 4, none⟩) hSw _)
  | true =>
    have HSTA : Hid (stepS L stop pAgainst ⟨n, bad, at_⟩ = stepS L stop (pMoreA [(stepS L stop (pWN wAgainst) ⟨n, bad, at_⟩).2.getD []]) (stepS L stop (pWN wAgainst) ⟨n, bad, at_⟩).1) := Lib.hid (against_go HV.out (by rw [HLN.out]; exact HN.out) HNBwa.out)
    have HNL : Hid (((stepS L stop (pWN wAgainst) ⟨n, bad, at_⟩).2.getD []).length ≤ 140737488351232) := Lib.hid (by rw [wn_step HV.out (by decide) (by rw [HLN.out]; exact HN.out)]; exact name_ok HOKT.out (exp_n (by rw [HLN.out]; exact HN.out)))
    have HNM : Hid (Calls Tryz.prog 66 #[pv a N c stop ⟨n, bad, at_⟩, .string ⟨#[97, 103, 97, 105, 110, 115, 116]⟩] wa fun e w' => e = .returned (.tuple #[strV ((stepS L stop (pWN wAgainst) ⟨n, bad, at_⟩).2.getD []), pv a N c stop (stepS L stop (pWN wAgainst) ⟨n, bad, at_⟩).1]) ∧ Below wa.heap.size wa w') := Lib.hid (zname_any B wa a N c L stop ⟨n, bad, at_⟩ ⟨#[97, 103, 97, 105, 110, 115, 116]⟩ (by decide) HV.out HLN.out (by have := HBX.out; have := HSZ.out; omega) (HL.out.below HBwa.out HBX.out) HN.out)
    have m0 := HCwa.out.cell 0
    have m1 := HCwa.out.cell 1
    have m2 := HCwa.out.cell 2
    have m3 := HCwa.out.cell 3
    have m4 := HCwa.out.cell 4
    simp at m0 m1 m2 m3 m4
    go_wp2_with fail
    refine HNM.out.mono ?_
    rintro e w1 ⟨rfl, hb⟩
    have HBc : Hid (Below w.heap.size w w1) := Lib.hid (HBwa.out.trans (hb.mono HBwa.out.size))
    have HCc := Lib.hid (HCwa.out.ext hb)
    have HRc := Lib.hid (HRwa.out.ext hb)
    have HOc := Lib.hid (OwnRecs.below strK HOwa.out hb (by omega))
    have hzc : S + 2 ≤ w1.heap.size := Nat.le_trans hzwa hb.size
    clear hb m0 m1 m2 m3 m4
    have hn1 : (stepS L stop (pWN wAgainst) ⟨n, bad, at_⟩).1.n ≤ N := by rw [← HLN.out]; exact step_n (by rw [HLN.out]; exact HN.out)
    obtain ⟨s1, hs1⟩ : ∃ s, (stepS L stop (pWN wAgainst) ⟨n, bad, at_⟩).1 = s := ⟨_, rfl⟩
    obtain ⟨z1, hz1'⟩ : ∃ s, (stepS L stop (pWN wAgainst) ⟨n, bad, at_⟩).2.getD [] = s := ⟨_, rfl⟩
    rw [hs1, hz1'] at HSTA
    rw [hs1] at hn1
    rw [hz1'] at HNL
    rw [hs1, hz1']
    clear hs1 hz1'
    obtain ⟨n1, b1, at1⟩ := s1
    have HN1 : Hid (n1 ≤ N) := Lib.hid hn1
    obtain ⟨y1, hy1⟩ : ∃ y : ByteArray, strV z1 = .string y := ⟨_, rfl⟩
    have HY1 := Lib.hid hy1
    rw [hy1]
    unfold pv pvC
    simp only
    clear hn1 hy1
    have m0 := HCc.out.cell 0
    have m1 := HCc.out.cell 1
    have m2 := HCc.out.cell 2
    have m3 := HCc.out.cell 3
    have m4 := HCc.out.cell 4
    simp at m0 m1 m2 m3 m4
    have f0 := HCc.out.free 0
    have f1 := HCc.out.free 1
    have f2 := HCc.out.free 2
    have f3 := HCc.out.free 3
    have f4 := HCc.out.free 4
    obtain ⟨wB, hX⟩ : ∃ W, ((((w1.setCell ⟨S, 0, none⟩ (.slice a N c)).setCell ⟨S, 1, none⟩ (.int .i64 (n1 : Int))).setCell ⟨S, 2, none⟩ (.int .i64 stop)).setCell ⟨S, 3, none⟩ (.bool b1)).setCell ⟨S, 4, none⟩ (.int .i64 at1) = W := ⟨_, rfl⟩
    have HCwB : Hid (CellsN wB S #[.slice a N c, .int .i64 (n1 : Int), .int .i64 stop, .bool b1, .int .i64 at1]) := Lib.hid (by rw [← hX]; have := ((((HCc.out.set 0 (.slice a N c)).set 1 (.int .i64 (n1 : Int))).set 2 (.int .i64 stop)).set 3 (.bool b1)).set 4 (.int .i64 at1); simpa using this)
    have HRwB : Hid (CellsN wB (S + 1) #[.slice none 0 0, .int .i64 0, .int .i64 0, .bool false, .int .i64 0]) := Lib.hid (by rw [← hX]; exact ((((HRc.out.other (by omega) 0 _).other (by omega) 1 _).other (by omega) 2 _).other (by omega) 3 _).other (by omega) 4 _)
    have HBwB : Hid (Below w.heap.size w wB) := Lib.hid (by rw [← hX]; have hSv : w.heap.size ≤ S := by { have := HSZ.out; omega }; exact (((((HBc.out.setCell (p := ⟨S, 0, none⟩) hSv _).setCell (p := ⟨S, 1, none⟩) hSv _).setCell (p := ⟨S, 2, none⟩) hSv _).setCell (p := ⟨S, 3, none⟩) hSv _).setCell (p := ⟨S, 4, none⟩) hSv _))
    have HOwB : Hid (OwnStrs (S + 2) wB (.slice (some ⟨G0, 0, none⟩) 0 0) []) := Lib.hid (by rw [← hX]; exact (strs_low (strs_low (strs_low (strs_low (strs_low HOc.out (b := S) (by omega)) (b := S) (by omega)) (b := S) (by omega)) (b := S) (by omega)) (b := S) (by omega)))
    have hzwB : S + 2 ≤ wB.heap.size := by rw [← hX]; simp only [World.size_setCell]; omega
    have HWwB := Lib.hid hX
    clear hX
    go_upto_region 5 with fail
    rw [HWwB.out]
    clear m0 m1 m2 m3 m4 f0 f1 f2 f3 f4
    have HOsk : Hid (OwnStrs (S + 2) (wB.alloc (.cells #[.string y1] 9)) (.slice (some ⟨G0, 0, none⟩) 0 0) []) := Lib.hid (OwnRecs.below strK HOwB.out (box_below' _ _) (by omega))
    obtain ⟨vk, wk, hrun, ho, hg, hat⟩ := run_append_recs strK (by decide) str_inf Tryz.underlying32 rfl (by decide) (by decide) (oty := 32) (C := S + 2) (v := (.slice (some ⟨G0, 0, none⟩) 0 0)) (vx := .slice (some ⟨wB.heap.size, 0, none⟩) 1 1) (xs := []) (ys := [z1]) HOsk.out (srcRecs_one strK (g := wB.heap.size) (c := 1) (cs := [strV z1]) (d := z1) (fun q u hq => by
      match q, hq with
      | 0, hq => simp at hq; subst hq; rw [HY1.out]; exact World.cell?_alloc_at _ _ _ _ rfl) ⟨rfl, HNL.out⟩) (by simp) (by simp; omega)
    have HRk := Lib.hid hrun
    have HOk := Lib.hid ho
    have HGk := Lib.hid hg
    have HSOk : Hid (∀ q, ((.slice (some ⟨G0, 0, none⟩) 0 0) : Value).ownBlock = some q → S + 2 ≤ q ∧ q < wB.heap.size) := Lib.hid (fun q hq => ⟨(HOwB.out.lt q hq).1, (HOwB.out.lt q hq).2⟩)
    obtain ⟨avk, nvk, cvk, rfl⟩ := ho.form'
    clear hrun ho hg hat
    have HBk : Hid (Below w.heap.size w wk) := Lib.hid ((HBwB.out.alloc HBwB.out.size _).grown HGk.out (by simp; have := HSZ.out; omega) (fun q hq => by have := (HSOk.out q hq).1; have := HSZ.out; omega))
    have HCk : Hid (CellsN wk S #[.slice a N c, .int .i64 (n1 : Int), .int .i64 stop, .bool b1, .int .i64 at1]) := Lib.hid ((HCwB.out.alloc _).grown HGk.out (fun e => by have := (HSOk.out S e.symm).1; omega))
    have HRk2 : Hid (CellsN wk (S + 1) #[.slice none 0 0, .int .i64 0, .int .i64 0, .bool false, .int .i64 0]) := Lib.hid ((HRwB.out.alloc _).grown HGk.out (fun e => by have := (HSOk.out (S + 1) e.symm).1; omega))
    have hzk : S + 2 ≤ wk.heap.size := by have := HGk.out.size; simp at this; omega
    go_wp2_with (at_builtin; refine wpList_yes' rfl (fun K hK => wp_of_append (s := .tmp 19) (x := .tmp 21) _ rfl rfl rfl HRk.out (hK _ _ ?_)))
    go_loopw [4] (fun lv wr => ∃ (zs : List Str) (s1 : PSt), OwnStrs (S + 2) wr lv zs ∧ CellsN wr S #[.slice a N c, .int .i64 (s1.n : Int), .int .i64 stop, .bool s1.bad, .int .i64 s1.at_] ∧ CellsN wr (S + 1) #[.slice none 0 0, .int .i64 0, .int .i64 0, .bool false, .int .i64 0] ∧ Below w.heap.size w wr ∧ s1.n ≤ N ∧ stepS L stop pAgainst ⟨n, bad, at_⟩ = stepS L stop (pMoreA zs) s1 ∧ zs.length ≤ s1.n + 1 ∧ S + 2 ≤ wr.heap.size) (fun lv wr => match wr.cell? ⟨S, 1, none⟩ with | some (.int _ m) => N - m.toNat | _ => 0)
    case atStart => exact ⟨[z1], ⟨n1, b1, at1⟩, HOk.out, HCk.out, HRk2.out, HBk.out, HN1.out, HSTA.out, by simp, hzk⟩
    case round =>
      obtain ⟨zs, s1, ho, hcS, hcR, hbr, hs1, hst, hzl, hzr⟩ := hrel
      obtain ⟨wq, rfl⟩ : ∃ W, W = wr := ⟨_, rfl⟩
      obtain ⟨n2, b2, at2⟩ := s1
      simp only at hcS hs1 hzl
      have HOr := Lib.hid ho
      have HCr := Lib.hid hcS
      have HRr := Lib.hid hcR
      have HBr := Lib.hid hbr
      have HN2 : Hid (n2 ≤ N) := Lib.hid hs1
      have HSTr := Lib.hid hst
      obtain ⟨avr, nvr, cvr, rfl⟩ := ho.form'
      clear ho hcS hcR hbr hst
      have m0 := HCr.out.cell 0
      have m1 := HCr.out.cell 1
      have m2 := HCr.out.cell 2
      have m3 := HCr.out.cell 3
      have m4 := HCr.out.cell 4
      simp at m0 m1 m2 m3 m4
      have HNXwe : Hid (Calls Tryz.prog 69 #[pv a N c stop ⟨n2, b2, at2⟩, .int .i64 3, .string ⟨#[44]⟩] wq fun e w' => e = .returned (.bool (nextB L ⟨n2, b2, at2⟩ 3 sComma)) ∧ Below wq.heap.size wq w') := Lib.hid (znext_any B wq a N c L stop ⟨n2, b2, at2⟩ 3 ⟨#[44]⟩ HLN.out (by have := HBX.out; have := HSZ.out; omega) (HL.out.below HBr.out HBX.out) HN2.out)
      go_wp2_with fail
      refine HNXwe.out.mono ?_
      rintro e we ⟨rfl, hb⟩
      have HBwe : Hid (Below w.heap.size w we) := Lib.hid (HBr.out.trans (hb.mono HBr.out.size))
      have HCwe := Lib.hid (HCr.out.ext hb)
      have HRwe := Lib.hid (HRr.out.ext hb)
      have hzwe : S + 2 ≤ we.heap.size := Nat.le_trans (by omega) hb.size
      have HOwe := Lib.hid (OwnRecs.below strK HOr.out hb hzr)
      clear hb m0 m1 m2 m3 m4
      obtain ⟨nbwe, hnb⟩ : ∃ b, nextB L ⟨n2, b2, at2⟩ 3 sComma = b := ⟨_, rfl⟩
      have HNBwe := Lib.hid hnb
      rw [hnb]
      clear hnb
      cases nbwe with
      | false =>
        have HE : Hid (stepS L stop pAgainst ⟨n, bad, at_⟩ = (⟨n2, b2, at2⟩, if b2 then none else some zs)) := Lib.hid (by rw [HSTr.out]; exact more_stop HV.out (by rw [HLN.out]; exact HN2.out) HNBwe.out)
        have m0 := HCwe.out.cell 0
        have m1 := HCwe.out.cell 1
        have m2 := HCwe.out.cell 2
        have m3 := HCwe.out.cell 3
        have m4 := HCwe.out.cell 4
        simp at m0 m1 m2 m3 m4
        go_wp2
        go_still_tail 3, (by kernel_rfl)
        change wpList _ _ _ _ _ we.drew
        clear m0 m1 m2 m3 m4
        have r0 := HRwe.out.cell 0
        have r1 := HRwe.out.cell 1
        have r2 := HRwe.out.cell 2
        have r3 := HRwe.out.cell 3
        have r4 := HRwe.out.cell 4
        simp at r0 r1 r2 r3 r4
        have g0 := HRwe.out.free 0
        have g1 := HRwe.out.free 1
        have g2 := HRwe.out.free 2
        have g3 := HRwe.out.free 3
        have g4 := HRwe.out.free 4
        go_wp2
        refine bodyPost_ret (v := .tuple #[.slice avr nvr cvr, pv0 a N c stop (n2) b2 at2]) (by simp [results, Tryz.results68, go_sem, r0, r1, r2, r3, r4]) rfl ⟨⟨_, zs, by rw [HE.out], ?_, fun y hy => by rw [HE.out] at hy; simp only at hy; split at hy; cases hy; exact Option.some.inj hy⟩, ?_⟩
        · exact strs_mono (strs_draw (strs_low (strs_low (strs_low (strs_low (strs_low HOwe.out (b := S + 1) (by omega)) (b := S + 1) (by omega)) (b := S + 1) (by omega)) (b := S + 1) (by omega)) (b := S + 1) (by omega))) (by have := HSZ.out; omega)
        have hSw : w.heap.size ≤ S + 1 := by have := HSZ.out; omega
        exact below_drewZ (((((HBwe.out.setCell (p := ⟨S + 1, 0, none⟩) hSw _).setCell (p := ⟨S + 1, 1, none⟩) hSw _).setCell (p := ⟨S + 1, 2, none⟩) hSw _).setCell (p := ⟨S + 1, 3, none⟩) hSw _).setCell (p := ⟨S + 1, 4, none⟩) hSw _)
      | true =>
        have HSTM := Lib.hid (more_go (stop := stop) (acc := zs) HV.out (by rw [HLN.out]; exact HN2.out) HNBwe.out)
        have HXN : Hid ((expS L stop ⟨n2, b2, at2⟩ 3 sComma).n ≤ N) := Lib.hid (by rw [← HLN.out]; exact exp_n (by rw [HLN.out]; exact HN2.out))
        have HXG : Hid (n2 + 1 ≤ (expS L stop ⟨n2, b2, at2⟩ 3 sComma).n) := Lib.hid (by rw [exp_next HNBwe.out]; exact Nat.le_refl _)
        have HXX : Hid (Calls Tryz.prog 72 #[pv a N c stop ⟨n2, b2, at2⟩, .int .i64 3, .string ⟨#[44]⟩] we fun e w' => e = .returned (pv a N c stop (expS L stop ⟨n2, b2, at2⟩ 3 sComma)) ∧ Below we.heap.size we w') := Lib.hid (zexpect_any B we a N c L stop ⟨n2, b2, at2⟩ 3 ⟨#[44]⟩ HLN.out (by have := HBX.out; have := HSZ.out; omega) (HL.out.below HBwe.out HBX.out) HN2.out)
        have m0 := HCwe.out.cell 0
        have m1 := HCwe.out.cell 1
        have m2 := HCwe.out.cell 2
        have m3 := HCwe.out.cell 3
        have m4 := HCwe.out.cell 4
        simp at m0 m1 m2 m3 m4
        go_wp2_with fail
        refine HXX.out.mono ?_
        rintro e wf ⟨rfl, hb⟩
        have HBwf : Hid (Below w.heap.size w wf) := Lib.hid (HBwe.out.trans (hb.mono HBwe.out.size))
        have HCwf := Lib.hid (HCwe.out.ext hb)
        have HRwf := Lib.hid (HRwe.out.ext hb)
        have HOwf := Lib.hid (OwnRecs.below strK HOwe.out hb (by omega))
        have hzwf : S + 2 ≤ wf.heap.size := Nat.le_trans hzwe hb.size
        clear hb m0 m1 m2 m3 m4
        obtain ⟨s3, hs3⟩ : ∃ s, expS L stop ⟨n2, b2, at2⟩ 3 sComma = s := ⟨_, rfl⟩
        rw [hs3] at HSTM HXN HXG
        rw [hs3]
        clear hs3
        have HBRC := Lib.hid (zbare_any B wf a N c L stop s3 HLN.out (by have := HBX.out; have := HSZ.out; omega) (HL.out.below HBwf.out HBX.out) HXN.out)
        have HNL2 : Hid (((stepS L stop pName s3).2.getD []).length ≤ 140737488351232) := Lib.hid (name_ok HOKT.out (by rw [HLN.out]; exact HXN.out))
        have HGR : Hid (s3.n ≤ (stepS L stop pName s3).1.n ∧ (stepS L stop pName s3).1.n ≤ N) := Lib.hid ⟨name_grows (by rw [HLN.out]; exact HXN.out), by rw [← HLN.out]; exact step_n (by rw [HLN.out]; exact HXN.out)⟩
        go_wp2_with fail
        refine HBRC.out.mono ?_
        rintro e wg ⟨rfl, hb⟩
        have HBwg : Hid (Below w.heap.size w wg) := Lib.hid (HBwf.out.trans (hb.mono HBwf.out.size))
        have HCwg := Lib.hid (HCwf.out.ext hb)
        have HRwg := Lib.hid (HRwf.out.ext hb)
        have HOwg := Lib.hid (OwnRecs.below strK HOwf.out hb (by omega))
        have hzwg : S + 2 ≤ wg.heap.size := Nat.le_trans hzwf hb.size
        clear hb
        obtain ⟨s4, hs4⟩ : ∃ s, (stepS L stop pName s3).1 = s := ⟨_, rfl⟩
        obtain ⟨z2, hz2⟩ : ∃ s, (stepS L stop pName s3).2.getD [] = s := ⟨_, rfl⟩
        rw [hs4, hz2] at HSTM
        rw [hs4] at HGR
        rw [hz2] at HNL2
        rw [hs4, hz2]
        clear hs4 hz2
        obtain ⟨n4, b4, at4⟩ := s4
        have HG4 : Hid (s3.n ≤ n4 ∧ n4 ≤ N) := Lib.hid HGR.out
        obtain ⟨y2, hy2⟩ : ∃ y : ByteArray, strV z2 = .string y := ⟨_, rfl⟩
        have HY2 := Lib.hid hy2
        rw [hy2]
        unfold pv pvC
        simp only
        clear hy2
        obtain ⟨wh, hwh⟩ : ∃ W, wg.alloc (.cells #[.slice a N c, .int .i64 (n4 : Int), .int .i64 stop, .bool b4, .int .i64 at4] 40) = W := ⟨_, rfl⟩
        have HBwh : Hid (Below w.heap.size w wh) := Lib.hid (by rw [← hwh]; exact HBwg.out.alloc HBwg.out.size _)
        have HCwh : Hid (CellsN wh S #[.slice a N c, .int .i64 (n2 : Int), .int .i64 stop, .bool b2, .int .i64 at2]) := Lib.hid (by rw [← hwh]; exact HCwg.out.alloc _)
        have HRwh : Hid (CellsN wh (S + 1) #[.slice none 0 0, .int .i64 0, .int .i64 0, .bool false, .int .i64 0]) := Lib.hid (by rw [← hwh]; exact HRwg.out.alloc _)
        have HQwh : Hid (CellsN wh wg.heap.size #[.slice a N c, .int .i64 (n4 : Int), .int .i64 stop, .bool b4, .int .i64 at4]) := Lib.hid (by rw [← hwh]; exact CellsN.new _ _ _)
        have HOwh := Lib.hid (OwnRecs.below strK HOwg.out (box_below' wg (.cells #[.slice a N c, .int .i64 (n4 : Int), .int .i64 stop, .bool b4, .int .i64 at4] 40)) hzwg)
        rw [hwh] at HOwh
        have HQO : Hid (∀ q, (Value.slice avr nvr cvr).ownBlock = some q → q < wg.heap.size) := Lib.hid (fun q hq => (HOwg.out.lt q hq).2)
        have hzwh : S + 2 ≤ wh.heap.size := by rw [← hwh]; simp; omega
        have HWwh := Lib.hid hwh
        clear hwh
        go_upto_region 8 with fail
        rw [HWwh.out]
        have HOsi : Hid (OwnStrs (S + 2) (wh.alloc (.cells #[.string y2] 9)) (.slice avr nvr cvr) zs) := Lib.hid (OwnRecs.below strK HOwh.out (box_below' _ _) (by omega))
        obtain ⟨vi, wi, hrun, ho, hg, hat⟩ := run_append_recs strK (by decide) str_inf Tryz.underlying32 rfl (by decide) (by decide) (oty := 32) (C := S + 2) (v := (.slice avr nvr cvr)) (vx := .slice (some ⟨wh.heap.size, 0, none⟩) 1 1) (xs := zs) (ys := [z2]) HOsi.out (srcRecs_one strK (g := wh.heap.size) (c := 1) (cs := [strV z2]) (d := z2) (fun q u hq => by
          match q, hq with
          | 0, hq => simp at hq; subst hq; rw [HY2.out]; exact World.cell?_alloc_at _ _ _ _ rfl) ⟨rfl, HNL2.out⟩) (by simp; omega) (by simp; omega)
        have HRi := Lib.hid hrun
        have HOi := Lib.hid ho
        have HGi := Lib.hid hg
        have HSOi : Hid (∀ q, ((.slice avr nvr cvr) : Value).ownBlock = some q → S + 2 ≤ q ∧ q < wh.heap.size) := Lib.hid (fun q hq => ⟨(HOwh.out.lt q hq).1, (HOwh.out.lt q hq).2⟩)
        obtain ⟨avi, nvi, cvi, rfl⟩ := ho.form'
        clear hrun ho hg hat
        have HBi : Hid (Below w.heap.size w wi) := Lib.hid ((HBwh.out.alloc HBwh.out.size _).grown HGi.out (by simp; have := HSZ.out; omega) (fun q hq => by have := (HSOi.out q hq).1; have := HSZ.out; omega))
        have HCi : Hid (CellsN wi S #[.slice a N c, .int .i64 (n2 : Int), .int .i64 stop, .bool b2, .int .i64 at2]) := Lib.hid ((HCwh.out.alloc _).grown HGi.out (fun e => by have := (HSOi.out S e.symm).1; omega))
        have HRi2 : Hid (CellsN wi (S + 1) #[.slice none 0 0, .int .i64 0, .int .i64 0, .bool false, .int .i64 0]) := Lib.hid ((HRwh.out.alloc _).grown HGi.out (fun e => by have := (HSOi.out (S + 1) e.symm).1; omega))
        have HQi : Hid (CellsN wi wg.heap.size #[.slice a N c, .int .i64 (n4 : Int), .int .i64 stop, .bool b4, .int .i64 at4]) := Lib.hid ((HQwh.out.alloc _).grown HGi.out (fun e => by have := HQO.out _ e.symm; omega))
        have hzi : S + 2 ≤ wi.heap.size := by have := HGi.out.size; simp at this; omega
        go_upto_region 9 with (at_builtin; refine wpList_yes' rfl (fun K hK => wp_of_append (s := .tmp 31) (x := .tmp 33) _ rfl rfl rfl HRi.out (hK _ _ ?_)))
        have m0 := HCi.out.cell 0
        have m1 := HCi.out.cell 1
        have m2 := HCi.out.cell 2
        have m3 := HCi.out.cell 3
        have m4 := HCi.out.cell 4
        simp at m0 m1 m2 m3 m4
        have r0 := HQi.out.cell 0
        have r1 := HQi.out.cell 1
        have r2 := HQi.out.cell 2
        have r3 := HQi.out.cell 3
        have r4 := HQi.out.cell 4
        simp at r0 r1 r2 r3 r4
        have f0 := HCi.out.free 0
        have f1 := HCi.out.free 1
        have f2 := HCi.out.free 2
        have f3 := HCi.out.free 3
        have f4 := HCi.out.free 4
        have hSG : ¬ S = wg.heap.size := by omega
        have hSG2 : ¬ wg.heap.size = S := by omega
        obtain ⟨wj, hX⟩ : ∃ W, ((((wi.setCell ⟨S, 0, none⟩ (.slice a N c)).setCell ⟨S, 1, none⟩ (.int .i64 (n4 : Int))).setCell ⟨S, 2, none⟩ (.int .i64 stop)).setCell ⟨S, 3, none⟩ (.bool b4)).setCell ⟨S, 4, none⟩ (.int .i64 at4) = W := ⟨_, rfl⟩
        have HCwj : Hid (CellsN wj S #[.slice a N c, .int .i64 (n4 : Int), .int .i64 stop, .bool b4, .int .i64 at4]) := Lib.hid (by rw [← hX]; have := ((((HCi.out.set 0 (.slice a N c)).set 1 (.int .i64 (n4 : Int))).set 2 (.int .i64 stop)).set 3 (.bool b4)).set 4 (.int .i64 at4); simpa using this)
        have HRwj : Hid (CellsN wj (S + 1) #[.slice none 0 0, .int .i64 0, .int .i64 0, .bool false, .int .i64 0]) := Lib.hid (by rw [← hX]; exact ((((HRi2.out.other (by omega) 0 _).other (by omega) 1 _).other (by omega) 2 _).other (by omega) 3 _).other (by omega) 4 _)
        have HBwj : Hid (Below w.heap.size w wj) := Lib.hid (by rw [← hX]; have hSv : w.heap.size ≤ S := by { have := HSZ.out; omega }; exact (((((HBi.out.setCell (p := ⟨S, 0, none⟩) hSv _).setCell (p := ⟨S, 1, none⟩) hSv _).setCell (p := ⟨S, 2, none⟩) hSv _).setCell (p := ⟨S, 3, none⟩) hSv _).setCell (p := ⟨S, 4, none⟩) hSv _))
        have HOwj : Hid (OwnStrs (S + 2) wj (.slice avi nvi cvi) (zs ++ [z2])) := Lib.hid (by rw [← hX]; exact (strs_low (strs_low (strs_low (strs_low (strs_low HOi.out (b := S) (by omega)) (b := S) (by omega)) (b := S) (by omega)) (b := S) (by omega)) (b := S) (by omega)))
        have hzwj : S + 2 ≤ wj.heap.size := by rw [← hX]; simp only [World.size_setCell]; omega
        have HWwj := Lib.hid hX
        clear hX
        go_wp2
        rw [HWwj.out]
        go_roundw
        case rel => exact ⟨zs ++ [z2], ⟨n4, b4, at4⟩, HOwj.out, HCwj.out, HRwj.out, HBwj.out, HG4.out.2, by rw [HSTr.out, HSTM.out], by have := HXG.out; have := HG4.out.1; simp only [List.length_append, List.length_cons, List.length_nil]; omega, hzwj⟩
        case measure =>
          have e1 := HCwj.out.cell 1
          have e2 := HCr.out.cell 1
          simp at e1 e2
          have := HXG.out
          have := HG4.out.1
          have := HG4.out.2
          simp only [e1, e2]
          simp
          omega
end Go.Proofs.YtfnmidddgjlipaaGreatDoor

/-
  Several cells of one block stored one after the other.
-/
set_option linter.unusedVariables false
set_option linter.unusedSimpArgs false
namespace Go.Proofs.YtfnmidddgjlipaaGreatDoor
open Go.RowKit

def storeN (w : World) (b : Nat) : Nat → List Value → World
  | _, [] => w
  | i, v :: r => storeN (w.setCell ⟨b, i, none⟩ v) b (i + 1) r
theorem storeN_size {b : Nat} : ∀ (vs : List Value) (i : Nat) (w : World), (storeN w b i vs).heap.size = w.heap.size
  | [], i, w => rfl
  | v :: r, i, w => by
    show (storeN (w.setCell ⟨b, i, none⟩ v) b (i + 1) r).heap.size = _
    rw [storeN_size r (i + 1)]
    simp
theorem storeN_below {B b : Nat} {w0 : World} (hb : B ≤ b) : ∀ (vs : List Value) (i : Nat) (w : World), Below B w0 w → Below B w0 (storeN w b i vs)
  | [], i, w, h => h
  | v :: r, i, w, h => storeN_below hb r (i + 1) _ (h.setCell (p := ⟨b, i, none⟩) hb v)
theorem storeN_other {b q : Nat} {c : Array Value} (hne : q ≠ b) : ∀ (vs : List Value) (i : Nat) (w : World), CellsN w q c → CellsN (storeN w b i vs) q c
  | [], i, w, h => h
  | v :: r, i, w, h => storeN_other hne r (i + 1) _ (h.other hne i v)
theorem storeN_own {C b : Nat} {u : Value} {xs : List Str} (hb : b < C) : ∀ (vs : List Value) (i : Nat) (w : World), OwnStrs C w u xs → OwnStrs C (storeN w b i vs) u xs
  | [], i, w, h => h
  | v :: r, i, w, h => storeN_own hb r (i + 1) _ (strs_low h hb)
theorem storeN_gen {b : Nat} : ∀ (vs : List Value) (i : Nat) (w : World) (c : Array Value), CellsN w b c → c.size = i + vs.length → CellsN (storeN w b i vs) b (c.toList.take i ++ vs).toArray
  | [], i, w, c, h, hc => by
    have e : c.toList.take i = c.toList := List.take_of_length_le (by rw [Array.length_toList, hc]; simp)
    rw [e, List.append_nil]
    exact h
  | v :: r, i, w, c, h, hc => by
    have h2 := storeN_gen r (i + 1) _ _ (h.set i v) (by simp only [Array.size_setIfInBounds, hc, List.length_cons]; omega)
    have e : (c.setIfInBounds i v).toList.take (i + 1) ++ r = c.toList.take i ++ v :: r := by
      have hl : i < c.toList.length := by rw [Array.length_toList, hc]; simp
      rw [Array.toList_setIfInBounds, List.take_succ_eq_append_getElem (by simpa using hl), List.take_set]
      simp
      rw [List.set_eq_of_length_le (by simp; omega)]
    rw [e] at h2
    exact h2
theorem storeN_set {b : Nat} {w : World} {c : Array Value} (h : CellsN w b c) (vs : List Value) (hc : c.size = vs.length) : CellsN (storeN w b 0 vs) b vs.toArray := by
  have := storeN_gen vs 0 w c h (by omega)
  simpa using this
end Go.Proofs.YtfnmidddgjlipaaGreatDoor

/-
  Layer 17: the walk of the specification's parser, sixth part: order (printed by tools/genz7.py).
-/
set_option linter.unusedVariables false
set_option linter.unusedSimpArgs false
namespace Go.Proofs.YtfnmidddgjlipaaGreatDoor
open Go.RowKit

set_option maxHeartbeats 8000000 in
set_option maxRecDepth 100000 in
theorem zorder_any (B : Nat) (w : World) (a : Option Addr) (N c : Nat) (L : List Tok) (stop : Int) (s : PSt) (hv : ∀ t ∈ L, validB t = true) (hok : ∀ t ∈ L, okT t) (hNb : N ≤ 1000000000) (hN : L.length = N) (hB : B ≤ w.heap.size) (hl : IsToks B w (.slice a N c) L) (hn : s.n ≤ N) :
    Calls Tryz.prog 46 #[pv a N c stop s] w fun e w' => (∃ va x, e = .returned (.tuple #[wishV va x, pv a N c stop (stepS L stop pOrder s).1]) ∧ OwnStrs w.heap.size w' va x.against ∧ okW x ∧ ∀ y, (stepS L stop pOrder s).2 = some y → x = y) ∧ Below w.heap.size w w' := by
  obtain ⟨n, bad, at_⟩ := s
  have HN : Hid (n ≤ N) := Lib.hid hn
  have HLN := Lib.hid hN
  have HL := Lib.hid hl
  have HBX := Lib.hid hB
  obtain ⟨S, hS⟩ : ∃ S, w.heap.size = S := ⟨_, rfl⟩
  have HSZ := Lib.hid hS
  obtain ⟨a', c', he, hc1, hc2, hc3⟩ := hl.form
  injection he with he1 he2 he3
  subst he1
  subst he3
  rw [hN] at hc1 hc3
  clear hl hn hB hN he2
  unfold pv pvC
  simp only
  have HV := Lib.hid hv
  have HOKT := Lib.hid hok
  clear hv hok
  obtain ⟨W0, hW0⟩ : ∃ W, (((w.alloc (.cells #[.slice a N c, .int .i64 (n : Int), .int .i64 stop, .bool bad, .int .i64 at_] 40)).alloc (.cells #[.string ⟨#[]⟩, .string ⟨#[]⟩, .string ⟨#[]⟩, .string ⟨#[]⟩, .int .i64 0, .int .i64 0, .int .i64 0, .int .i64 0, .slice none 0 0, .bool false, .int .i64 0] 34)).alloc (.cells #[.slice none 0 0, .int .i64 0, .int .i64 0, .bool false, .int .i64 0] 40)).alloc (.cells #[.string ⟨#[]⟩, .string ⟨#[]⟩, .string ⟨#[]⟩, .string ⟨#[]⟩, .int .i64 0, .int .i64 0, .int .i64 0, .int .i64 0, .slice none 0 0, .bool false, .int .i64 0] 34) = W := ⟨_, rfl⟩
  have HB0 : Hid (Below w.heap.size w W0) := Lib.hid (by rw [← hW0]; exact (((box_below' _ _).alloc (by simp) _).alloc (by simp; omega) _).alloc (by simp; omega) _)
  have HP0 : Hid (CellsN W0 S #[.slice a N c, .int .i64 (n : Int), .int .i64 stop, .bool bad, .int .i64 at_]) := Lib.hid (by rw [← hW0, ← hS]; exact (((CellsN.new w _ _).alloc _).alloc _).alloc _)
  have HY0 : Hid (CellsN W0 (S + 1) #[.string ⟨#[]⟩, .string ⟨#[]⟩, .string ⟨#[]⟩, .string ⟨#[]⟩, .int .i64 0, .int .i64 0, .int .i64 0, .int .i64 0, .slice none 0 0, .bool false, .int .i64 0]) := Lib.hid (by rw [← hW0, ← hS]; have := CellsN.new (w.alloc (.cells #[.slice a N c, .int .i64 (n : Int), .int .i64 stop, .bool bad, .int .i64 at_] 40)) #[.string ⟨#[]⟩, .string ⟨#[]⟩, .string ⟨#[]⟩, .string ⟨#[]⟩, .int .i64 0, .int .i64 0, .int .i64 0, .int .i64 0, .slice none 0 0, .bool false, .int .i64 0] 34; simp only [World.size_alloc] at this; exact (this.alloc _).alloc _)
  have HR0 : Hid (CellsN W0 (S + 1 + 1) #[.slice none 0 0, .int .i64 0, .int .i64 0, .bool false, .int .i64 0]) := Lib.hid (by rw [← hW0, ← hS]; have := CellsN.new ((w.alloc (.cells #[.slice a N c, .int .i64 (n : Int), .int .i64 stop, .bool bad, .int .i64 at_] 40)).alloc (.cells #[.string ⟨#[]⟩, .string ⟨#[]⟩, .string ⟨#[]⟩, .string ⟨#[]⟩, .int .i64 0, .int .i64 0, .int .i64 0, .int .i64 0, .slice none 0 0, .bool false, .int .i64 0] 34)) #[.slice none 0 0, .int .i64 0, .int .i64 0, .bool false, .int .i64 0] 40; simp only [World.size_alloc] at this; exact this.alloc _)
  have HX0 : Hid (CellsN W0 (S + 1 + 1 + 1) #[.string ⟨#[]⟩, .string ⟨#[]⟩, .string ⟨#[]⟩, .string ⟨#[]⟩, .int .i64 0, .int .i64 0, .int .i64 0, .int .i64 0, .slice none 0 0, .bool false, .int .i64 0]) := Lib.hid (by rw [← hW0, ← hS]; have := CellsN.new (((w.alloc (.cells #[.slice a N c, .int .i64 (n : Int), .int .i64 stop, .bool bad, .int .i64 at_] 40)).alloc (.cells #[.string ⟨#[]⟩, .string ⟨#[]⟩, .string ⟨#[]⟩, .string ⟨#[]⟩, .int .i64 0, .int .i64 0, .int .i64 0, .int .i64 0, .slice none 0 0, .bool false, .int .i64 0] 34)).alloc (.cells #[.slice none 0 0, .int .i64 0, .int .i64 0, .bool false, .int .i64 0] 40)) #[.string ⟨#[]⟩, .string ⟨#[]⟩, .string ⟨#[]⟩, .string ⟨#[]⟩, .int .i64 0, .int .i64 0, .int .i64 0, .int .i64 0, .slice none 0 0, .bool false, .int .i64 0] 34; simp only [World.size_alloc] at this; exact this)
  have hz0 : S + 4 ≤ W0.heap.size := by rw [← hW0]; simp [hS]
  have HW0 := Lib.hid hW0
  clear hW0
  go_enter Tryz.func46, Tryz.ntmps46
  go_upto_region 2 with fail
  rw [HW0.out]
  try rw [hS]
  clear hS
  have HCL : Hid (Calls Tryz.prog 66 #[pv a N c stop ⟨n, bad, at_⟩, .string ⟨#[108, 101, 116, 116, 101, 114]⟩] W0 fun e w' => e = .returned (.tuple #[strV ((stepS L stop (pWN wLetter) ⟨n, bad, at_⟩).2.getD []), pv a N c stop (stepS L stop (pWN wLetter) ⟨n, bad, at_⟩).1]) ∧ Below W0.heap.size W0 w') := Lib.hid (zname_any B W0 a N c L stop ⟨n, bad, at_⟩ ⟨#[108, 101, 116, 116, 101, 114]⟩ (by decide) HV.out HLN.out (by have := HBX.out; have := HSZ.out; omega) (HL.out.below HB0.out HBX.out) HN.out)
  have m0 := HP0.out.cell 0
  have m1 := HP0.out.cell 1
  have m2 := HP0.out.cell 2
  have m3 := HP0.out.cell 3
  have m4 := HP0.out.cell 4
  simp at m0 m1 m2 m3 m4
  go_wp2_with fail
  refine HCL.out.mono ?_
  clear HCL
  rintro e wq ⟨rfl, hb⟩
  have HBq : Hid (Below w.heap.size w wq) := Lib.hid (HB0.out.trans (hb.mono HB0.out.size))
  have HPq := Lib.hid (HP0.out.ext hb)
  have HYq := Lib.hid (HY0.out.ext hb)
  have HRq := Lib.hid (HR0.out.ext hb)
  have HXq := Lib.hid (HX0.out.ext hb)
  have hzq : S + 4 ≤ wq.heap.size := Nat.le_trans hz0 hb.size
  clear hb m0 m1 m2 m3 m4
  have hnk : (stepS L stop (pWN wLetter) ⟨n, bad, at_⟩).1.n ≤ N := by rw [← HLN.out]; exact step_n (by rw [HLN.out]; exact HN.out)
  have HK1 := Lib.hid (show ((stepS L stop (pWN wLetter) ⟨n, bad, at_⟩).2.getD []).length ≤ 140737488351232 by rw [wn_step HV.out (by decide) (by rw [HLN.out]; exact HN.out)]; exact name_ok HOKT.out (exp_n (by rw [HLN.out]; exact HN.out)))
  obtain ⟨s1, hs1⟩ : ∃ s, (stepS L stop (pWN wLetter) ⟨n, bad, at_⟩).1 = s := ⟨_, rfl⟩
  obtain ⟨za, hv1⟩ : ∃ z, (stepS L stop (pWN wLetter) ⟨n, bad, at_⟩).2.getD [] = z := ⟨_, rfl⟩
  have HS1 := Lib.hid (And.intro hs1 hv1)
  rw [hs1, hv1]
  rw [hs1] at hnk
  rw [hv1] at HK1
  clear hs1 hv1
  obtain ⟨n1, b1, at1⟩ := s1
  have HN1 : Hid (n1 ≤ N) := Lib.hid hnk
  clear hnk
  obtain ⟨y1, hy⟩ : ∃ y : ByteArray, strV za = .string y := ⟨_, rfl⟩
  have HYY1 := Lib.hid hy
  rw [hy]
  clear hy
  unfold pv pvC
  simp only
  have m0 := HPq.out.cell 0
  have m1 := HPq.out.cell 1
  have m2 := HPq.out.cell 2
  have m3 := HPq.out.cell 3
  have m4 := HPq.out.cell 4
  simp at m0 m1 m2 m3 m4
  have f0 := HPq.out.free 0
  have f1 := HPq.out.free 1
  have f2 := HPq.out.free 2
  have f3 := HPq.out.free 3
  have f4 := HPq.out.free 4
  have x0 := HXq.out.cell 0
  have x1 := HXq.out.cell 1
  have x2 := HXq.out.cell 2
  have x3 := HXq.out.cell 3
  have x4 := HXq.out.cell 4
  have x5 := HXq.out.cell 5
  have x6 := HXq.out.cell 6
  have x7 := HXq.out.cell 7
  have x8 := HXq.out.cell 8
  have x9 := HXq.out.cell 9
  have x10 := HXq.out.cell 10
  simp at x0 x1 x2 x3 x4 x5 x6 x7 x8 x9 x10
  have g0 := HXq.out.free 0
  have g1 := HXq.out.free 1
  have g2 := HXq.out.free 2
  have g3 := HXq.out.free 3
  have g4 := HXq.out.free 4
  have g5 := HXq.out.free 5
  have g6 := HXq.out.free 6
  have g7 := HXq.out.free 7
  have g8 := HXq.out.free 8
  have g9 := HXq.out.free 9
  have g10 := HXq.out.free 10
  obtain ⟨w10, hwn⟩ : ∃ W, ((((((wq.setCell ⟨S + 1 + 1 + 1, 0, none⟩ (.string y1)).setCell ⟨S, 0, none⟩ (.slice a N c)).setCell ⟨S, 1, none⟩ (.int .i64 (n1 : Int))).setCell ⟨S, 2, none⟩ (.int .i64 stop)).setCell ⟨S, 3, none⟩ (.bool b1)).setCell ⟨S, 4, none⟩ (.int .i64 at1)) = W := ⟨_, rfl⟩
  have HP1 : Hid (CellsN w10 S #[.slice a N c, .int .i64 (n1 : Int), .int .i64 stop, .bool b1, .int .i64 at1]) := Lib.hid (by rw [← hwn]; have := (((((HPq.out.other (p := S + 1 + 1 + 1) (by omega) 0 (.string y1)).set 0 (.slice a N c)).set 1 (.int .i64 (n1 : Int))).set 2 (.int .i64 stop)).set 3 (.bool b1)).set 4 (.int .i64 at1); simpa using this)
  have HX1 : Hid (CellsN w10 (S + 1 + 1 + 1) #[.string y1, .string ⟨#[]⟩, .string ⟨#[]⟩, .string ⟨#[]⟩, .int .i64 0, .int .i64 0, .int .i64 0, .int .i64 0, .slice none 0 0, .bool false, .int .i64 0]) := Lib.hid (by rw [← hwn]; have := HXq.out.set 0 (.string y1); have h2 := (((((this.other (p := S) (by omega) 0 (.slice a N c)).other (p := S) (by omega) 1 (.int .i64 (n1 : Int))).other (p := S) (by omega) 2 (.int .i64 stop)).other (p := S) (by omega) 3 (.bool b1)).other (p := S) (by omega) 4 (.int .i64 at1)); simpa using h2)
  have HY1 : Hid (CellsN w10 (S + 1) #[.string ⟨#[]⟩, .string ⟨#[]⟩, .string ⟨#[]⟩, .string ⟨#[]⟩, .int .i64 0, .int .i64 0, .int .i64 0, .int .i64 0, .slice none 0 0, .bool false, .int .i64 0]) := Lib.hid (by rw [← hwn]; exact (((((HYq.out.other (by omega) _ _).other (by omega) 0 _).other (by omega) 1 _).other (by omega) 2 _).other (by omega) 3 _).other (by omega) 4 _)
  have HR1 : Hid (CellsN w10 (S + 1 + 1) #[.slice none 0 0, .int .i64 0, .int .i64 0, .bool false, .int .i64 0]) := Lib.hid (by rw [← hwn]; exact (((((HRq.out.other (by omega) _ _).other (by omega) 0 _).other (by omega) 1 _).other (by omega) 2 _).other (by omega) 3 _).other (by omega) 4 _)
  have HB1 : Hid (Below w.heap.size w w10) := Lib.hid (by rw [← hwn]; have hSv : w.heap.size ≤ S := by { have := HSZ.out; omega }; have hSx : w.heap.size ≤ S + 1 + 1 + 1 := by { have := HSZ.out; omega }; exact ((((((HBq.out.setCell (p := ⟨S + 1 + 1 + 1, 0, none⟩) hSx _).setCell (p := ⟨S, 0, none⟩) hSv _).setCell (p := ⟨S, 1, none⟩) hSv _).setCell (p := ⟨S, 2, none⟩) hSv _).setCell (p := ⟨S, 3, none⟩) hSv _).setCell (p := ⟨S, 4, none⟩) hSv _))
  have hz1 : S + 4 ≤ w10.heap.size := by rw [← hwn]; simp only [World.size_setCell]; omega
  have HWN := Lib.hid hwn
  clear hwn
  go_upto_region 3 with fail
  rw [HWN.out]
  clear HWN m0 m1 m2 m3 m4 f0 f1 f2 f3 f4 x0 x1 x2 x3 x4 x5 x6 x7 x8 x9 x10 g0 g1 g2 g3 g4 g5 g6 g7 g8 g9 g10
  clear HBq HPq HYq HRq HXq hzq
  have HCL : Hid (Calls Tryz.prog 66 #[pv a N c stop ⟨n1, b1, at1⟩, .string ⟨#[102, 114, 111, 109]⟩] w10 fun e w' => e = .returned (.tuple #[strV ((stepS L stop (pWN wFrom) ⟨n1, b1, at1⟩).2.getD []), pv a N c stop (stepS L stop (pWN wFrom) ⟨n1, b1, at1⟩).1]) ∧ Below w10.heap.size w10 w') := Lib.hid (zname_any B w10 a N c L stop ⟨n1, b1, at1⟩ ⟨#[102, 114, 111, 109]⟩ (by decide) HV.out HLN.out (by have := HBX.out; have := HSZ.out; omega) (HL.out.below HB1.out HBX.out) HN1.out)
  have m0 := HP1.out.cell 0
  have m1 := HP1.out.cell 1
  have m2 := HP1.out.cell 2
  have m3 := HP1.out.cell 3
  have m4 := HP1.out.cell 4
  simp at m0 m1 m2 m3 m4
  go_wp2_with fail
  refine HCL.out.mono ?_
  clear HCL
  rintro e wq ⟨rfl, hb⟩
  have HBq : Hid (Below w.heap.size w wq) := Lib.hid (HB1.out.trans (hb.mono HB1.out.size))
  have HPq := Lib.hid (HP1.out.ext hb)
  have HYq := Lib.hid (HY1.out.ext hb)
  have HRq := Lib.hid (HR1.out.ext hb)
  have HXq := Lib.hid (HX1.out.ext hb)
  have hzq : S + 4 ≤ wq.heap.size := Nat.le_trans hz1 hb.size
  clear hb m0 m1 m2 m3 m4
  have hnk : (stepS L stop (pWN wFrom) ⟨n1, b1, at1⟩).1.n ≤ N := by rw [← HLN.out]; exact step_n (by rw [HLN.out]; exact HN1.out)
  have HK2 := Lib.hid (show ((stepS L stop (pWN wFrom) ⟨n1, b1, at1⟩).2.getD []).length ≤ 140737488351232 by rw [wn_step HV.out (by decide) (by rw [HLN.out]; exact HN1.out)]; exact name_ok HOKT.out (exp_n (by rw [HLN.out]; exact HN1.out)))
  obtain ⟨s2, hs2⟩ : ∃ s, (stepS L stop (pWN wFrom) ⟨n1, b1, at1⟩).1 = s := ⟨_, rfl⟩
  obtain ⟨zb, hv2⟩ : ∃ z, (stepS L stop (pWN wFrom) ⟨n1, b1, at1⟩).2.getD [] = z := ⟨_, rfl⟩
  have HS2 := Lib.hid (And.intro hs2 hv2)
  rw [hs2, hv2]
  rw [hs2] at hnk
  rw [hv2] at HK2
  clear hs2 hv2
  obtain ⟨n2, b2, at2⟩ := s2
  have HN2 : Hid (n2 ≤ N) := Lib.hid hnk
  clear hnk
  obtain ⟨y2, hy⟩ : ∃ y : ByteArray, strV zb = .string y := ⟨_, rfl⟩
  have HYY2 := Lib.hid hy
  rw [hy]
  clear hy
  unfold pv pvC
  simp only
  have m0 := HPq.out.cell 0
  have m1 := HPq.out.cell 1
  have m2 := HPq.out.cell 2
  have m3 := HPq.out.cell 3
  have m4 := HPq.out.cell 4
  simp at m0 m1 m2 m3 m4
  have f0 := HPq.out.free 0
  have f1 := HPq.out.free 1
  have f2 := HPq.out.free 2
  have f3 := HPq.out.free 3
  have f4 := HPq.out.free 4
  have x0 := HXq.out.cell 0
  have x1 := HXq.out.cell 1
  have x2 := HXq.out.cell 2
  have x3 := HXq.out.cell 3
  have x4 := HXq.out.cell 4
  have x5 := HXq.out.cell 5
  have x6 := HXq.out.cell 6
  have x7 := HXq.out.cell 7
  have x8 := HXq.out.cell 8
  have x9 := HXq.out.cell 9
  have x10 := HXq.out.cell 10
  simp at x0 x1 x2 x3 x4 x5 x6 x7 x8 x9 x10
  have g0 := HXq.out.free 0
  have g1 := HXq.out.free 1
  have g2 := HXq.out.free 2
  have g3 := HXq.out.free 3
  have g4 := HXq.out.free 4
  have g5 := HXq.out.free 5
  have g6 := HXq.out.free 6
  have g7 := HXq.out.free 7
  have g8 := HXq.out.free 8
  have g9 := HXq.out.free 9
  have g10 := HXq.out.free 10
  obtain ⟨w11, hwn⟩ : ∃ W, ((((((wq.setCell ⟨S + 1 + 1 + 1, 1, none⟩ (.string y2)).setCell ⟨S, 0, none⟩ (.slice a N c)).setCell ⟨S, 1, none⟩ (.int .i64 (n2 : Int))).setCell ⟨S, 2, none⟩ (.int .i64 stop)).setCell ⟨S, 3, none⟩ (.bool b2)).setCell ⟨S, 4, none⟩ (.int .i64 at2)) = W := ⟨_, rfl⟩
  have HP2 : Hid (CellsN w11 S #[.slice a N c, .int .i64 (n2 : Int), .int .i64 stop, .bool b2, .int .i64 at2]) := Lib.hid (by rw [← hwn]; have := (((((HPq.out.other (p := S + 1 + 1 + 1) (by omega) 1 (.string y2)).set 0 (.slice a N c)).set 1 (.int .i64 (n2 : Int))).set 2 (.int .i64 stop)).set 3 (.bool b2)).set 4 (.int .i64 at2); simpa using this)
  have HX2 : Hid (CellsN w11 (S + 1 + 1 + 1) #[.string y1, .string y2, .string ⟨#[]⟩, .string ⟨#[]⟩, .int .i64 0, .int .i64 0, .int .i64 0, .int .i64 0, .slice none 0 0, .bool false, .int .i64 0]) := Lib.hid (by rw [← hwn]; have := HXq.out.set 1 (.string y2); have h2 := (((((this.other (p := S) (by omega) 0 (.slice a N c)).other (p := S) (by omega) 1 (.int .i64 (n2 : Int))).other (p := S) (by omega) 2 (.int .i64 stop)).other (p := S) (by omega) 3 (.bool b2)).other (p := S) (by omega) 4 (.int .i64 at2)); simpa using h2)
  have HY2 : Hid (CellsN w11 (S + 1) #[.string ⟨#[]⟩, .string ⟨#[]⟩, .string ⟨#[]⟩, .string ⟨#[]⟩, .int .i64 0, .int .i64 0, .int .i64 0, .int .i64 0, .slice none 0 0, .bool false, .int .i64 0]) := Lib.hid (by rw [← hwn]; exact (((((HYq.out.other (by omega) _ _).other (by omega) 0 _).other (by omega) 1 _).other (by omega) 2 _).other (by omega) 3 _).other (by omega) 4 _)
  have HR2 : Hid (CellsN w11 (S + 1 + 1) #[.slice none 0 0, .int .i64 0, .int .i64 0, .bool false, .int .i64 0]) := Lib.hid (by rw [← hwn]; exact (((((HRq.out.other (by omega) _ _).other (by omega) 0 _).other (by omega) 1 _).other (by omega) 2 _).other (by omega) 3 _).other (by omega) 4 _)
  have HB2 : Hid (Below w.heap.size w w11) := Lib.hid (by rw [← hwn]; have hSv : w.heap.size ≤ S := by { have := HSZ.out; omega }; have hSx : w.heap.size ≤ S + 1 + 1 + 1 := by { have := HSZ.out; omega }; exact ((((((HBq.out.setCell (p := ⟨S + 1 + 1 + 1, 1, none⟩) hSx _).setCell (p := ⟨S, 0, none⟩) hSv _).setCell (p := ⟨S, 1, none⟩) hSv _).setCell (p := ⟨S, 2, none⟩) hSv _).setCell (p := ⟨S, 3, none⟩) hSv _).setCell (p := ⟨S, 4, none⟩) hSv _))
  have hz2 : S + 4 ≤ w11.heap.size := by rw [← hwn]; simp only [World.size_setCell]; omega
  have HWN := Lib.hid hwn
  clear hwn
  go_upto_region 4 with fail
  rw [HWN.out]
  clear HWN m0 m1 m2 m3 m4 f0 f1 f2 f3 f4 x0 x1 x2 x3 x4 x5 x6 x7 x8 x9 x10 g0 g1 g2 g3 g4 g5 g6 g7 g8 g9 g10
  clear HBq HPq HYq HRq HXq hzq
  have HCL : Hid (Calls Tryz.prog 66 #[pv a N c stop ⟨n2, b2, at2⟩, .string ⟨#[116, 111]⟩] w11 fun e w' => e = .returned (.tuple #[strV ((stepS L stop (pWN wTo) ⟨n2, b2, at2⟩).2.getD []), pv a N c stop (stepS L stop (pWN wTo) ⟨n2, b2, at2⟩).1]) ∧ Below w11.heap.size w11 w') := Lib.hid (zname_any B w11 a N c L stop ⟨n2, b2, at2⟩ ⟨#[116, 111]⟩ (by decide) HV.out HLN.out (by have := HBX.out; have := HSZ.out; omega) (HL.out.below HB2.out HBX.out) HN2.out)
  have m0 := HP2.out.cell 0
  have m1 := HP2.out.cell 1
  have m2 := HP2.out.cell 2
  have m3 := HP2.out.cell 3
  have m4 := HP2.out.cell 4
  simp at m0 m1 m2 m3 m4
  go_wp2_with fail
  refine HCL.out.mono ?_
  clear HCL
  rintro e wq ⟨rfl, hb⟩
  have HBq : Hid (Below w.heap.size w wq) := Lib.hid (HB2.out.trans (hb.mono HB2.out.size))
  have HPq := Lib.hid (HP2.out.ext hb)
  have HYq := Lib.hid (HY2.out.ext hb)
  have HRq := Lib.hid (HR2.out.ext hb)
  have HXq := Lib.hid (HX2.out.ext hb)
  have hzq : S + 4 ≤ wq.heap.size := Nat.le_trans hz2 hb.size
  clear hb m0 m1 m2 m3 m4
  have hnk : (stepS L stop (pWN wTo) ⟨n2, b2, at2⟩).1.n ≤ N := by rw [← HLN.out]; exact step_n (by rw [HLN.out]; exact HN2.out)
  have HK3 := Lib.hid (show ((stepS L stop (pWN wTo) ⟨n2, b2, at2⟩).2.getD []).length ≤ 140737488351232 by rw [wn_step HV.out (by decide) (by rw [HLN.out]; exact HN2.out)]; exact name_ok HOKT.out (exp_n (by rw [HLN.out]; exact HN2.out)))
  obtain ⟨s3, hs3⟩ : ∃ s, (stepS L stop (pWN wTo) ⟨n2, b2, at2⟩).1 = s := ⟨_, rfl⟩
  obtain ⟨zc, hv3⟩ : ∃ z, (stepS L stop (pWN wTo) ⟨n2, b2, at2⟩).2.getD [] = z := ⟨_, rfl⟩
  have HS3 := Lib.hid (And.intro hs3 hv3)
  rw [hs3, hv3]
  rw [hs3] at hnk
  rw [hv3] at HK3
  clear hs3 hv3
  obtain ⟨n3, b3, at3⟩ := s3
  have HN3 : Hid (n3 ≤ N) := Lib.hid hnk
  clear hnk
  obtain ⟨y3, hy⟩ : ∃ y : ByteArray, strV zc = .string y := ⟨_, rfl⟩
  have HYY3 := Lib.hid hy
  rw [hy]
  clear hy
  unfold pv pvC
  simp only
  have m0 := HPq.out.cell 0
  have m1 := HPq.out.cell 1
  have m2 := HPq.out.cell 2
  have m3 := HPq.out.cell 3
  have m4 := HPq.out.cell 4
  simp at m0 m1 m2 m3 m4
  have f0 := HPq.out.free 0
  have f1 := HPq.out.free 1
  have f2 := HPq.out.free 2
  have f3 := HPq.out.free 3
  have f4 := HPq.out.free 4
  have x0 := HXq.out.cell 0
  have x1 := HXq.out.cell 1
  have x2 := HXq.out.cell 2
  have x3 := HXq.out.cell 3
  have x4 := HXq.out.cell 4
  have x5 := HXq.out.cell 5
  have x6 := HXq.out.cell 6
  have x7 := HXq.out.cell 7
  have x8 := HXq.out.cell 8
  have x9 := HXq.out.cell 9
  have x10 := HXq.out.cell 10
  simp at x0 x1 x2 x3 x4 x5 x6 x7 x8 x9 x10
  have g0 := HXq.out.free 0
  have g1 := HXq.out.free 1
  have g2 := HXq.out.free 2
  have g3 := HXq.out.free 3
  have g4 := HXq.out.free 4
  have g5 := HXq.out.free 5
  have g6 := HXq.out.free 6
  have g7 := HXq.out.free 7
  have g8 := HXq.out.free 8
  have g9 := HXq.out.free 9
  have g10 := HXq.out.free 10
  obtain ⟨w12, hwn⟩ : ∃ W, ((((((wq.setCell ⟨S + 1 + 1 + 1, 2, none⟩ (.string y3)).setCell ⟨S, 0, none⟩ (.slice a N c)).setCell ⟨S, 1, none⟩ (.int .i64 (n3 : Int))).setCell ⟨S, 2, none⟩ (.int .i64 stop)).setCell ⟨S, 3, none⟩ (.bool b3)).setCell ⟨S, 4, none⟩ (.int .i64 at3)) = W := ⟨_, rfl⟩
  have HP3 : Hid (CellsN w12 S #[.slice a N c, .int .i64 (n3 : Int), .int .i64 stop, .bool b3, .int .i64 at3]) := Lib.hid (by rw [← hwn]; have := (((((HPq.out.other (p := S + 1 + 1 + 1) (by omega) 2 (.string y3)).set 0 (.slice a N c)).set 1 (.int .i64 (n3 : Int))).set 2 (.int .i64 stop)).set 3 (.bool b3)).set 4 (.int .i64 at3); simpa using this)
  have HX3 : Hid (CellsN w12 (S + 1 + 1 + 1) #[.string y1, .string y2, .string y3, .string ⟨#[]⟩, .int .i64 0, .int .i64 0, .int .i64 0, .int .i64 0, .slice none 0 0, .bool false, .int .i64 0]) := Lib.hid (by rw [← hwn]; have := HXq.out.set 2 (.string y3); have h2 := (((((this.other (p := S) (by omega) 0 (.slice a N c)).other (p := S) (by omega) 1 (.int .i64 (n3 : Int))).other (p := S) (by omega) 2 (.int .i64 stop)).other (p := S) (by omega) 3 (.bool b3)).other (p := S) (by omega) 4 (.int .i64 at3)); simpa using h2)
  have HY3 : Hid (CellsN w12 (S + 1) #[.string ⟨#[]⟩, .string ⟨#[]⟩, .string ⟨#[]⟩, .string ⟨#[]⟩, .int .i64 0, .int .i64 0, .int .i64 0, .int .i64 0, .slice none 0 0, .bool false, .int .i64 0]) := Lib.hid (by rw [← hwn]; exact (((((HYq.out.other (by omega) _ _).other (by omega) 0 _).other (by omega) 1 _).other (by omega) 2 _).other (by omega) 3 _).other (by omega) 4 _)
  have HR3 : Hid (CellsN w12 (S + 1 + 1) #[.slice none 0 0, .int .i64 0, .int .i64 0, .bool false, .int .i64 0]) := Lib.hid (by rw [← hwn]; exact (((((HRq.out.other (by omega) _ _).other (by omega) 0 _).other (by omega) 1 _).other (by omega) 2 _).other (by omega) 3 _).other (by omega) 4 _)
  have HB3 : Hid (Below w.heap.size w w12) := Lib.hid (by rw [← hwn]; have hSv : w.heap.size ≤ S := by { have := HSZ.out; omega }; have hSx : w.heap.size ≤ S + 1 + 1 + 1 := by { have := HSZ.out; omega }; exact ((((((HBq.out.setCell (p := ⟨S + 1 + 1 + 1, 2, none⟩) hSx _).setCell (p := ⟨S, 0, none⟩) hSv _).setCell (p := ⟨S, 1, none⟩) hSv _).setCell (p := ⟨S, 2, none⟩) hSv _).setCell (p := ⟨S, 3, none⟩) hSv _).setCell (p := ⟨S, 4, none⟩) hSv _))
  have hz3 : S + 4 ≤ w12.heap.size := by rw [← hwn]; simp only [World.size_setCell]; omega
  have HWN := Lib.hid hwn
  clear hwn
  go_upto_region 5 with fail
  rw [HWN.out]
  clear HWN m0 m1 m2 m3 m4 f0 f1 f2 f3 f4 x0 x1 x2 x3 x4 x5 x6 x7 x8 x9 x10 g0 g1 g2 g3 g4 g5 g6 g7 g8 g9 g10
  clear HBq HPq HYq HRq HXq hzq
  have HCL : Hid (Calls Tryz.prog 66 #[pv a N c stop ⟨n3, b3, at3⟩, .string ⟨#[99, 108, 97, 115, 115]⟩] w12 fun e w' => e = .returned (.tuple #[strV ((stepS L stop (pWN wClass) ⟨n3, b3, at3⟩).2.getD []), pv a N c stop (stepS L stop (pWN wClass) ⟨n3, b3, at3⟩).1]) ∧ Below w12.heap.size w12 w') := Lib.hid (zname_any B w12 a N c L stop ⟨n3, b3, at3⟩ ⟨#[99, 108, 97, 115, 115]⟩ (by decide) HV.out HLN.out (by have := HBX.out; have := HSZ.out; omega) (HL.out.below HB3.out HBX.out) HN3.out)
  have m0 := HP3.out.cell 0
  have m1 := HP3.out.cell 1
  have m2 := HP3.out.cell 2
  have m3 := HP3.out.cell 3
  have m4 := HP3.out.cell 4
  simp at m0 m1 m2 m3 m4
  go_wp2_with fail
  refine HCL.out.mono ?_
  clear HCL
  rintro e wq ⟨rfl, hb⟩
  have HBq : Hid (Below w.heap.size w wq) := Lib.hid (HB3.out.trans (hb.mono HB3.out.size))
  have HPq := Lib.hid (HP3.out.ext hb)
  have HYq := Lib.hid (HY3.out.ext hb)
  have HRq := Lib.hid (HR3.out.ext hb)
  have HXq := Lib.hid (HX3.out.ext hb)
  have hzq : S + 4 ≤ wq.heap.size := Nat.le_trans hz3 hb.size
  clear hb m0 m1 m2 m3 m4
  have hnk : (stepS L stop (pWN wClass) ⟨n3, b3, at3⟩).1.n ≤ N := by rw [← HLN.out]; exact step_n (by rw [HLN.out]; exact HN3.out)
  have HK4 := Lib.hid (show ((stepS L stop (pWN wClass) ⟨n3, b3, at3⟩).2.getD []).length ≤ 140737488351232 by rw [wn_step HV.out (by decide) (by rw [HLN.out]; exact HN3.out)]; exact name_ok HOKT.out (exp_n (by rw [HLN.out]; exact HN3.out)))
  obtain ⟨s4, hs4⟩ : ∃ s, (stepS L stop (pWN wClass) ⟨n3, b3, at3⟩).1 = s := ⟨_, rfl⟩
  obtain ⟨zd, hv4⟩ : ∃ z, (stepS L stop (pWN wClass) ⟨n3, b3, at3⟩).2.getD [] = z := ⟨_, rfl⟩
  have HS4 := Lib.hid (And.intro hs4 hv4)
  rw [hs4, hv4]
  rw [hs4] at hnk
  rw [hv4] at HK4
  clear hs4 hv4
  obtain ⟨n4, b4, at4⟩ := s4
  have HN4 : Hid (n4 ≤ N) := Lib.hid hnk
  clear hnk
  obtain ⟨y4, hy⟩ : ∃ y : ByteArray, strV zd = .string y := ⟨_, rfl⟩
  have HYY4 := Lib.hid hy
  rw [hy]
  clear hy
  unfold pv pvC
  simp only
  have m0 := HPq.out.cell 0
  have m1 := HPq.out.cell 1
  have m2 := HPq.out.cell 2
  have m3 := HPq.out.cell 3
  have m4 := HPq.out.cell 4
  simp at m0 m1 m2 m3 m4
  have f0 := HPq.out.free 0
  have f1 := HPq.out.free 1
  have f2 := HPq.out.free 2
  have f3 := HPq.out.free 3
  have f4 := HPq.out.free 4
  have x0 := HXq.out.cell 0
  have x1 := HXq.out.cell 1
  have x2 := HXq.out.cell 2
  have x3 := HXq.out.cell 3
  have x4 := HXq.out.cell 4
  have x5 := HXq.out.cell 5
  have x6 := HXq.out.cell 6
  have x7 := HXq.out.cell 7
  have x8 := HXq.out.cell 8
  have x9 := HXq.out.cell 9
  have x10 := HXq.out.cell 10
  simp at x0 x1 x2 x3 x4 x5 x6 x7 x8 x9 x10
  have g0 := HXq.out.free 0
  have g1 := HXq.out.free 1
  have g2 := HXq.out.free 2
  have g3 := HXq.out.free 3
  have g4 := HXq.out.free 4
  have g5 := HXq.out.free 5
  have g6 := HXq.out.free 6
  have g7 := HXq.out.free 7
  have g8 := HXq.out.free 8
  have g9 := HXq.out.free 9
  have g10 := HXq.out.free 10
  obtain ⟨w13, hwn⟩ : ∃ W, ((((((wq.setCell ⟨S + 1 + 1 + 1, 3, none⟩ (.string y4)).setCell ⟨S, 0, none⟩ (.slice a N c)).setCell ⟨S, 1, none⟩ (.int .i64 (n4 : Int))).setCell ⟨S, 2, none⟩ (.int .i64 stop)).setCell ⟨S, 3, none⟩ (.bool b4)).setCell ⟨S, 4, none⟩ (.int .i64 at4)) = W := ⟨_, rfl⟩
  have HP4 : Hid (CellsN w13 S #[.slice a N c, .int .i64 (n4 : Int), .int .i64 stop, .bool b4, .int .i64 at4]) := Lib.hid (by rw [← hwn]; have := (((((HPq.out.other (p := S + 1 + 1 + 1) (by omega) 3 (.string y4)).set 0 (.slice a N c)).set 1 (.int .i64 (n4 : Int))).set 2 (.int .i64 stop)).set 3 (.bool b4)).set 4 (.int .i64 at4); simpa using this)
  have HX4 : Hid (CellsN w13 (S + 1 + 1 + 1) #[.string y1, .string y2, .string y3, .string y4, .int .i64 0, .int .i64 0, .int .i64 0, .int .i64 0, .slice none 0 0, .bool false, .int .i64 0]) := Lib.hid (by rw [← hwn]; have := HXq.out.set 3 (.string y4); have h2 := (((((this.other (p := S) (by omega) 0 (.slice a N c)).other (p := S) (by omega) 1 (.int .i64 (n4 : Int))).other (p := S) (by omega) 2 (.int .i64 stop)).other (p := S) (by omega) 3 (.bool b4)).other (p := S) (by omega) 4 (.int .i64 at4)); simpa using h2)
  have HY4 : Hid (CellsN w13 (S + 1) #[.string ⟨#[]⟩, .string ⟨#[]⟩, .string ⟨#[]⟩, .string ⟨#[]⟩, .int .i64 0, .int .i64 0, .int .i64 0, .int .i64 0, .slice none 0 0, .bool false, .int .i64 0]) := Lib.hid (by rw [← hwn]; exact (((((HYq.out.other (by omega) _ _).other (by omega) 0 _).other (by omega) 1 _).other (by omega) 2 _).other (by omega) 3 _).other (by omega) 4 _)
  have HR4 : Hid (CellsN w13 (S + 1 + 1) #[.slice none 0 0, .int .i64 0, .int .i64 0, .bool false, .int .i64 0]) := Lib.hid (by rw [← hwn]; exact (((((HRq.out.other (by omega) _ _).other (by omega) 0 _).other (by omega) 1 _).other (by omega) 2 _).other (by omega) 3 _).other (by omega) 4 _)
  have HB4 : Hid (Below w.heap.size w w13) := Lib.hid (by rw [← hwn]; have hSv : w.heap.size ≤ S := by { have := HSZ.out; omega }; have hSx : w.heap.size ≤ S + 1 + 1 + 1 := by { have := HSZ.out; omega }; exact ((((((HBq.out.setCell (p := ⟨S + 1 + 1 + 1, 3, none⟩) hSx _).setCell (p := ⟨S, 0, none⟩) hSv _).setCell (p := ⟨S, 1, none⟩) hSv _).setCell (p := ⟨S, 2, none⟩) hSv _).setCell (p := ⟨S, 3, none⟩) hSv _).setCell (p := ⟨S, 4, none⟩) hSv _))
  have hz4 : S + 4 ≤ w13.heap.size := by rw [← hwn]; simp only [World.size_setCell]; omega
  have HWN := Lib.hid hwn
  clear hwn
  go_upto_region 6 with fail
  rw [HWN.out]
  clear HWN m0 m1 m2 m3 m4 f0 f1 f2 f3 f4 x0 x1 x2 x3 x4 x5 x6 x7 x8 x9 x10 g0 g1 g2 g3 g4 g5 g6 g7 g8 g9 g10
  clear HBq HPq HYq HRq HXq hzq
  have HCL : Hid (Calls Tryz.prog 67 #[pv a N c stop ⟨n4, b4, at4⟩, .string ⟨#[97, 102, 116, 101, 114]⟩, .int .i64 2097151] w13 fun e w' => e = .returned (.tuple #[.int .i64 ((stepS L stop (pWM wAfter clockM) ⟨n4, b4, at4⟩).2.getD 0), pv a N c stop (stepS L stop (pWM wAfter clockM) ⟨n4, b4, at4⟩).1]) ∧ Below w13.heap.size w13 w') := Lib.hid (znumber_any B w13 a N c L stop ⟨n4, b4, at4⟩ ⟨#[97, 102, 116, 101, 114]⟩ 2097151 (by decide) HV.out HLN.out (by have := HBX.out; have := HSZ.out; omega) (HL.out.below HB4.out HBX.out) HN4.out)
  have m0 := HP4.out.cell 0
  have m1 := HP4.out.cell 1
  have m2 := HP4.out.cell 2
  have m3 := HP4.out.cell 3
  have m4 := HP4.out.cell 4
  simp at m0 m1 m2 m3 m4
  go_wp2_with fail
  refine HCL.out.mono ?_
  clear HCL
  rintro e wq ⟨rfl, hb⟩
  have HBq : Hid (Below w.heap.size w wq) := Lib.hid (HB4.out.trans (hb.mono HB4.out.size))
  have HPq := Lib.hid (HP4.out.ext hb)
  have HYq := Lib.hid (HY4.out.ext hb)
  have HRq := Lib.hid (HR4.out.ext hb)
  have HXq := Lib.hid (HX4.out.ext hb)
  have hzq : S + 4 ≤ wq.heap.size := Nat.le_trans hz4 hb.size
  clear hb m0 m1 m2 m3 m4
  have hnk : (stepS L stop (pWM wAfter clockM) ⟨n4, b4, at4⟩).1.n ≤ N := by rw [← HLN.out]; exact step_n (by rw [HLN.out]; exact HN4.out)
  have HK5 := Lib.hid (show I64 ((stepS L stop (pWM wAfter clockM) ⟨n4, b4, at4⟩).2.getD 0) by rw [wm_step HV.out (by decide) (by rw [HLN.out]; exact HN4.out)]; exact num_ok HOKT.out (exp_n (by rw [HLN.out]; exact HN4.out)))
  obtain ⟨s5, hs5⟩ : ∃ s, (stepS L stop (pWM wAfter clockM) ⟨n4, b4, at4⟩).1 = s := ⟨_, rfl⟩
  obtain ⟨ze, hv5⟩ : ∃ z, (stepS L stop (pWM wAfter clockM) ⟨n4, b4, at4⟩).2.getD 0 = z := ⟨_, rfl⟩
  have HS5 := Lib.hid (And.intro hs5 hv5)
  rw [hs5, hv5]
  rw [hs5] at hnk
  rw [hv5] at HK5
  clear hs5 hv5
  obtain ⟨n5, b5, at5⟩ := s5
  have HN5 : Hid (n5 ≤ N) := Lib.hid hnk
  clear hnk
  unfold pv pvC
  simp only
  have m0 := HPq.out.cell 0
  have m1 := HPq.out.cell 1
  have m2 := HPq.out.cell 2
  have m3 := HPq.out.cell 3
  have m4 := HPq.out.cell 4
  simp at m0 m1 m2 m3 m4
  have f0 := HPq.out.free 0
  have f1 := HPq.out.free 1
  have f2 := HPq.out.free 2
  have f3 := HPq.out.free 3
  have f4 := HPq.out.free 4
  have x0 := HXq.out.cell 0
  have x1 := HXq.out.cell 1
  have x2 := HXq.out.cell 2
  have x3 := HXq.out.cell 3
  have x4 := HXq.out.cell 4
  have x5 := HXq.out.cell 5
  have x6 := HXq.out.cell 6
  have x7 := HXq.out.cell 7
  have x8 := HXq.out.cell 8
  have x9 := HXq.out.cell 9
  have x10 := HXq.out.cell 10
  simp at x0 x1 x2 x3 x4 x5 x6 x7 x8 x9 x10
  have g0 := HXq.out.free 0
  have g1 := HXq.out.free 1
  have g2 := HXq.out.free 2
  have g3 := HXq.out.free 3
  have g4 := HXq.out.free 4
  have g5 := HXq.out.free 5
  have g6 := HXq.out.free 6
  have g7 := HXq.out.free 7
  have g8 := HXq.out.free 8
  have g9 := HXq.out.free 9
  have g10 := HXq.out.free 10
  obtain ⟨w14, hwn⟩ : ∃ W, ((((((wq.setCell ⟨S + 1 + 1 + 1, 4, none⟩ (.int .i64 ze)).setCell ⟨S, 0, none⟩ (.slice a N c)).setCell ⟨S, 1, none⟩ (.int .i64 (n5 : Int))).setCell ⟨S, 2, none⟩ (.int .i64 stop)).setCell ⟨S, 3, none⟩ (.bool b5)).setCell ⟨S, 4, none⟩ (.int .i64 at5)) = W := ⟨_, rfl⟩
  have HP5 : Hid (CellsN w14 S #[.slice a N c, .int .i64 (n5 : Int), .int .i64 stop, .bool b5, .int .i64 at5]) := Lib.hid (by rw [← hwn]; have := (((((HPq.out.other (p := S + 1 + 1 + 1) (by omega) 4 (.int .i64 ze)).set 0 (.slice a N c)).set 1 (.int .i64 (n5 : Int))).set 2 (.int .i64 stop)).set 3 (.bool b5)).set 4 (.int .i64 at5); simpa using this)
  have HX5 : Hid (CellsN w14 (S + 1 + 1 + 1) #[.string y1, .string y2, .string y3, .string y4, .int .i64 ze, .int .i64 0, .int .i64 0, .int .i64 0, .slice none 0 0, .bool false, .int .i64 0]) := Lib.hid (by rw [← hwn]; have := HXq.out.set 4 (.int .i64 ze); have h2 := (((((this.other (p := S) (by omega) 0 (.slice a N c)).other (p := S) (by omega) 1 (.int .i64 (n5 : Int))).other (p := S) (by omega) 2 (.int .i64 stop)).other (p := S) (by omega) 3 (.bool b5)).other (p := S) (by omega) 4 (.int .i64 at5)); simpa using h2)
  have HY5 : Hid (CellsN w14 (S + 1) #[.string ⟨#[]⟩, .string ⟨#[]⟩, .string ⟨#[]⟩, .string ⟨#[]⟩, .int .i64 0, .int .i64 0, .int .i64 0, .int .i64 0, .slice none 0 0, .bool false, .int .i64 0]) := Lib.hid (by rw [← hwn]; exact (((((HYq.out.other (by omega) _ _).other (by omega) 0 _).other (by omega) 1 _).other (by omega) 2 _).other (by omega) 3 _).other (by omega) 4 _)
  have HR5 : Hid (CellsN w14 (S + 1 + 1) #[.slice none 0 0, .int .i64 0, .int .i64 0, .bool false, .int .i64 0]) := Lib.hid (by rw [← hwn]; exact (((((HRq.out.other (by omega) _ _).other (by omega) 0 _).other (by omega) 1 _).other (by omega) 2 _).other (by omega) 3 _).other (by omega) 4 _)
  have HB5 : Hid (Below w.heap.size w w14) := Lib.hid (by rw [← hwn]; have hSv : w.heap.size ≤ S := by { have := HSZ.out; omega }; have hSx : w.heap.size ≤ S + 1 + 1 + 1 := by { have := HSZ.out; omega }; exact ((((((HBq.out.setCell (p := ⟨S + 1 + 1 + 1, 4, none⟩) hSx _).setCell (p := ⟨S, 0, none⟩) hSv _).setCell (p := ⟨S, 1, none⟩) hSv _).setCell (p := ⟨S, 2, none⟩) hSv _).setCell (p := ⟨S, 3, none⟩) hSv _).setCell (p := ⟨S, 4, none⟩) hSv _))
  have hz5 : S + 4 ≤ w14.heap.size := by rw [← hwn]; simp only [World.size_setCell]; omega
  have HWN := Lib.hid hwn
  clear hwn
  go_upto_region 7 with fail
  rw [HWN.out]
  clear HWN m0 m1 m2 m3 m4 f0 f1 f2 f3 f4 x0 x1 x2 x3 x4 x5 x6 x7 x8 x9 x10 g0 g1 g2 g3 g4 g5 g6 g7 g8 g9 g10
  clear HBq HPq HYq HRq HXq hzq
  have HCL : Hid (Calls Tryz.prog 67 #[pv a N c stop ⟨n5, b5, at5⟩, .string ⟨#[98, 121]⟩, .int .i64 2097151] w14 fun e w' => e = .returned (.tuple #[.int .i64 ((stepS L stop (pWM wBy clockM) ⟨n5, b5, at5⟩).2.getD 0), pv a N c stop (stepS L stop (pWM wBy clockM) ⟨n5, b5, at5⟩).1]) ∧ Below w14.heap.size w14 w') := Lib.hid (znumber_any B w14 a N c L stop ⟨n5, b5, at5⟩ ⟨#[98, 121]⟩ 2097151 (by decide) HV.out HLN.out (by have := HBX.out; have := HSZ.out; omega) (HL.out.below HB5.out HBX.out) HN5.out)
  have m0 := HP5.out.cell 0
  have m1 := HP5.out.cell 1
  have m2 := HP5.out.cell 2
  have m3 := HP5.out.cell 3
  have m4 := HP5.out.cell 4
  simp at m0 m1 m2 m3 m4
  go_wp2_with fail
  refine HCL.out.mono ?_
  clear HCL
  rintro e wq ⟨rfl, hb⟩
  have HBq : Hid (Below w.heap.size w wq) := Lib.hid (HB5.out.trans (hb.mono HB5.out.size))
  have HPq := Lib.hid (HP5.out.ext hb)
  have HYq := Lib.hid (HY5.out.ext hb)
  have HRq := Lib.hid (HR5.out.ext hb)
  have HXq := Lib.hid (HX5.out.ext hb)
  have hzq : S + 4 ≤ wq.heap.size := Nat.le_trans hz5 hb.size
  clear hb m0 m1 m2 m3 m4
  have hnk : (stepS L stop (pWM wBy clockM) ⟨n5, b5, at5⟩).1.n ≤ N := by rw [← HLN.out]; exact step_n (by rw [HLN.out]; exact HN5.out)
  have HK6 := Lib.hid (show I64 ((stepS L stop (pWM wBy clockM) ⟨n5, b5, at5⟩).2.getD 0) by rw [wm_step HV.out (by decide) (by rw [HLN.out]; exact HN5.out)]; exact num_ok HOKT.out (exp_n (by rw [HLN.out]; exact HN5.out)))
  obtain ⟨s6, hs6⟩ : ∃ s, (stepS L stop (pWM wBy clockM) ⟨n5, b5, at5⟩).1 = s := ⟨_, rfl⟩
  obtain ⟨zf, hv6⟩ : ∃ z, (stepS L stop (pWM wBy clockM) ⟨n5, b5, at5⟩).2.getD 0 = z := ⟨_, rfl⟩
  have HS6 := Lib.hid (And.intro hs6 hv6)
  rw [hs6, hv6]
  rw [hs6] at hnk
  rw [hv6] at HK6
  clear hs6 hv6
  obtain ⟨n6, b6, at6⟩ := s6
  have HN6 : Hid (n6 ≤ N) := Lib.hid hnk
  clear hnk
  unfold pv pvC
  simp only
  have m0 := HPq.out.cell 0
  have m1 := HPq.out.cell 1
  have m2 := HPq.out.cell 2
  have m3 := HPq.out.cell 3
  have m4 := HPq.out.cell 4
  simp at m0 m1 m2 m3 m4
  have f0 := HPq.out.free 0
  have f1 := HPq.out.free 1
  have f2 := HPq.out.free 2
  have f3 := HPq.out.free 3
  have f4 := HPq.out.free 4
  have x0 := HXq.out.cell 0
  have x1 := HXq.out.cell 1
  have x2 := HXq.out.cell 2
  have x3 := HXq.out.cell 3
  have x4 := HXq.out.cell 4
  have x5 := HXq.out.cell 5
  have x6 := HXq.out.cell 6
  have x7 := HXq.out.cell 7
  have x8 := HXq.out.cell 8
  have x9 := HXq.out.cell 9
  have x10 := HXq.out.cell 10
  simp at x0 x1 x2 x3 x4 x5 x6 x7 x8 x9 x10
  have g0 := HXq.out.free 0
  have g1 := HXq.out.free 1
  have g2 := HXq.out.free 2
  have g3 := HXq.out.free 3
  have g4 := HXq.out.free 4
  have g5 := HXq.out.free 5
  have g6 := HXq.out.free 6
  have g7 := HXq.out.free 7
  have g8 := HXq.out.free 8
  have g9 := HXq.out.free 9
  have g10 := HXq.out.free 10
  obtain ⟨w15, hwn⟩ : ∃ W, ((((((wq.setCell ⟨S + 1 + 1 + 1, 5, none⟩ (.int .i64 zf)).setCell ⟨S, 0, none⟩ (.slice a N c)).setCell ⟨S, 1, none⟩ (.int .i64 (n6 : Int))).setCell ⟨S, 2, none⟩ (.int .i64 stop)).setCell ⟨S, 3, none⟩ (.bool b6)).setCell ⟨S, 4, none⟩ (.int .i64 at6)) = W := ⟨_, rfl⟩
  have HP6 : Hid (CellsN w15 S #[.slice a N c, .int .i64 (n6 : Int), .int .i64 stop, .bool b6, .int .i64 at6]) := Lib.hid (by rw [← hwn]; have := (((((HPq.out.other (p := S + 1 + 1 + 1) (by omega) 5 (.int .i64 zf)).set 0 (.slice a N c)).set 1 (.int .i64 (n6 : Int))).set 2 (.int .i64 stop)).set 3 (.bool b6)).set 4 (.int .i64 at6); simpa using this)
  have HX6 : Hid (CellsN w15 (S + 1 + 1 + 1) #[.string y1, .string y2, .string y3, .string y4, .int .i64 ze, .int .i64 zf, .int .i64 0, .int .i64 0, .slice none 0 0, .bool false, .int .i64 0]) := Lib.hid (by rw [← hwn]; have := HXq.out.set 5 (.int .i64 zf); have h2 := (((((this.other (p := S) (by omega) 0 (.slice a N c)).other (p := S) (by omega) 1 (.int .i64 (n6 : Int))).other (p := S) (by omega) 2 (.int .i64 stop)).other (p := S) (by omega) 3 (.bool b6)).other (p := S) (by omega) 4 (.int .i64 at6)); simpa using h2)
  have HY6 : Hid (CellsN w15 (S + 1) #[.string ⟨#[]⟩, .string ⟨#[]⟩, .string ⟨#[]⟩, .string ⟨#[]⟩, .int .i64 0, .int .i64 0, .int .i64 0, .int .i64 0, .slice none 0 0, .bool false, .int .i64 0]) := Lib.hid (by rw [← hwn]; exact (((((HYq.out.other (by omega) _ _).other (by omega) 0 _).other (by omega) 1 _).other (by omega) 2 _).other (by omega) 3 _).other (by omega) 4 _)
  have HR6 : Hid (CellsN w15 (S + 1 + 1) #[.slice none 0 0, .int .i64 0, .int .i64 0, .bool false, .int .i64 0]) := Lib.hid (by rw [← hwn]; exact (((((HRq.out.other (by omega) _ _).other (by omega) 0 _).other (by omega) 1 _).other (by omega) 2 _).other (by omega) 3 _).other (by omega) 4 _)
  have HB6 : Hid (Below w.heap.size w w15) := Lib.hid (by rw [← hwn]; have hSv : w.heap.size ≤ S := by { have := HSZ.out; omega }; have hSx : w.heap.size ≤ S + 1 + 1 + 1 := by { have := HSZ.out; omega }; exact ((((((HBq.out.setCell (p := ⟨S + 1 + 1 + 1, 5, none⟩) hSx _).setCell (p := ⟨S, 0, none⟩) hSv _).setCell (p := ⟨S, 1, none⟩) hSv _).setCell (p := ⟨S, 2, none⟩) hSv _).setCell (p := ⟨S, 3, none⟩) hSv _).setCell (p := ⟨S, 4, none⟩) hSv _))
  have hz6 : S + 4 ≤ w15.heap.size := by rw [← hwn]; simp only [World.size_setCell]; omega
  have HWN := Lib.hid hwn
  clear hwn
  go_upto_region 8 with fail
  rw [HWN.out]
  clear HWN m0 m1 m2 m3 m4 f0 f1 f2 f3 f4 x0 x1 x2 x3 x4 x5 x6 x7 x8 x9 x10 g0 g1 g2 g3 g4 g5 g6 g7 g8 g9 g10
  clear HBq HPq HYq HRq HXq hzq
  have HCL : Hid (Calls Tryz.prog 67 #[pv a N c stop ⟨n6, b6, at6⟩, .string ⟨#[99, 114, 111, 119, 100]⟩, .int .i64 64] w15 fun e w' => e = .returned (.tuple #[.int .i64 ((stepS L stop (pWM wCrowd crowdM) ⟨n6, b6, at6⟩).2.getD 0), pv a N c stop (stepS L stop (pWM wCrowd crowdM) ⟨n6, b6, at6⟩).1]) ∧ Below w15.heap.size w15 w') := Lib.hid (znumber_any B w15 a N c L stop ⟨n6, b6, at6⟩ ⟨#[99, 114, 111, 119, 100]⟩ 64 (by decide) HV.out HLN.out (by have := HBX.out; have := HSZ.out; omega) (HL.out.below HB6.out HBX.out) HN6.out)
  have m0 := HP6.out.cell 0
  have m1 := HP6.out.cell 1
  have m2 := HP6.out.cell 2
  have m3 := HP6.out.cell 3
  have m4 := HP6.out.cell 4
  simp at m0 m1 m2 m3 m4
  go_wp2_with fail
  refine HCL.out.mono ?_
  clear HCL
  rintro e wq ⟨rfl, hb⟩
  have HBq : Hid (Below w.heap.size w wq) := Lib.hid (HB6.out.trans (hb.mono HB6.out.size))
  have HPq := Lib.hid (HP6.out.ext hb)
  have HYq := Lib.hid (HY6.out.ext hb)
  have HRq := Lib.hid (HR6.out.ext hb)
  have HXq := Lib.hid (HX6.out.ext hb)
  have hzq : S + 4 ≤ wq.heap.size := Nat.le_trans hz6 hb.size
  clear hb m0 m1 m2 m3 m4
  have hnk : (stepS L stop (pWM wCrowd crowdM) ⟨n6, b6, at6⟩).1.n ≤ N := by rw [← HLN.out]; exact step_n (by rw [HLN.out]; exact HN6.out)
  have HK7 := Lib.hid (show I64 ((stepS L stop (pWM wCrowd crowdM) ⟨n6, b6, at6⟩).2.getD 0) by rw [wm_step HV.out (by decide) (by rw [HLN.out]; exact HN6.out)]; exact num_ok HOKT.out (exp_n (by rw [HLN.out]; exact HN6.out)))
  obtain ⟨s7, hs7⟩ : ∃ s, (stepS L stop (pWM wCrowd crowdM) ⟨n6, b6, at6⟩).1 = s := ⟨_, rfl⟩
  obtain ⟨zg, hv7⟩ : ∃ z, (stepS L stop (pWM wCrowd crowdM) ⟨n6, b6, at6⟩).2.getD 0 = z := ⟨_, rfl⟩
  have HS7 := Lib.hid (And.intro hs7 hv7)
  rw [hs7, hv7]
  rw [hs7] at hnk
  rw [hv7] at HK7
  clear hs7 hv7
  obtain ⟨n7, b7, at7⟩ := s7
  have HN7 : Hid (n7 ≤ N) := Lib.hid hnk
  clear hnk
  unfold pv pvC
  simp only
  have m0 := HPq.out.cell 0
  have m1 := HPq.out.cell 1
  have m2 := HPq.out.cell 2
  have m3 := HPq.out.cell 3
  have m4 := HPq.out.cell 4
  simp at m0 m1 m2 m3 m4
  have f0 := HPq.out.free 0
  have f1 := HPq.out.free 1
  have f2 := HPq.out.free 2
  have f3 := HPq.out.free 3
  have f4 := HPq.out.free 4
  have x0 := HXq.out.cell 0
  have x1 := HXq.out.cell 1
  have x2 := HXq.out.cell 2
  have x3 := HXq.out.cell 3
  have x4 := HXq.out.cell 4
  have x5 := HXq.out.cell 5
  have x6 := HXq.out.cell 6
  have x7 := HXq.out.cell 7
  have x8 := HXq.out.cell 8
  have x9 := HXq.out.cell 9
  have x10 := HXq.out.cell 10
  simp at x0 x1 x2 x3 x4 x5 x6 x7 x8 x9 x10
  have g0 := HXq.out.free 0
  have g1 := HXq.out.free 1
  have g2 := HXq.out.free 2
  have g3 := HXq.out.free 3
  have g4 := HXq.out.free 4
  have g5 := HXq.out.free 5
  have g6 := HXq.out.free 6
  have g7 := HXq.out.free 7
  have g8 := HXq.out.free 8
  have g9 := HXq.out.free 9
  have g10 := HXq.out.free 10
  obtain ⟨w16, hwn⟩ : ∃ W, ((((((wq.setCell ⟨S + 1 + 1 + 1, 6, none⟩ (.int .i64 zg)).setCell ⟨S, 0, none⟩ (.slice a N c)).setCell ⟨S, 1, none⟩ (.int .i64 (n7 : Int))).setCell ⟨S, 2, none⟩ (.int .i64 stop)).setCell ⟨S, 3, none⟩ (.bool b7)).setCell ⟨S, 4, none⟩ (.int .i64 at7)) = W := ⟨_, rfl⟩
  have HP7 : Hid (CellsN w16 S #[.slice a N c, .int .i64 (n7 : Int), .int .i64 stop, .bool b7, .int .i64 at7]) := Lib.hid (by rw [← hwn]; have := (((((HPq.out.other (p := S + 1 + 1 + 1) (by omega) 6 (.int .i64 zg)).set 0 (.slice a N c)).set 1 (.int .i64 (n7 : Int))).set 2 (.int .i64 stop)).set 3 (.bool b7)).set 4 (.int .i64 at7); simpa using this)
  have HX7 : Hid (CellsN w16 (S + 1 + 1 + 1) #[.string y1, .string y2, .string y3, .string y4, .int .i64 ze, .int .i64 zf, .int .i64 zg, .int .i64 0, .slice none 0 0, .bool false, .int .i64 0]) := Lib.hid (by rw [← hwn]; have := HXq.out.set 6 (.int .i64 zg); have h2 := (((((this.other (p := S) (by omega) 0 (.slice a N c)).other (p := S) (by omega) 1 (.int .i64 (n7 : Int))).other (p := S) (by omega) 2 (.int .i64 stop)).other (p := S) (by omega) 3 (.bool b7)).other (p := S) (by omega) 4 (.int .i64 at7)); simpa using h2)
  have HY7 : Hid (CellsN w16 (S + 1) #[.string ⟨#[]⟩, .string ⟨#[]⟩, .string ⟨#[]⟩, .string ⟨#[]⟩, .int .i64 0, .int .i64 0, .int .i64 0, .int .i64 0, .slice none 0 0, .bool false, .int .i64 0]) := Lib.hid (by rw [← hwn]; exact (((((HYq.out.other (by omega) _ _).other (by omega) 0 _).other (by omega) 1 _).other (by omega) 2 _).other (by omega) 3 _).other (by omega) 4 _)
  have HR7 : Hid (CellsN w16 (S + 1 + 1) #[.slice none 0 0, .int .i64 0, .int .i64 0, .bool false, .int .i64 0]) := Lib.hid (by rw [← hwn]; exact (((((HRq.out.other (by omega) _ _).other (by omega) 0 _).other (by omega) 1 _).other (by omega) 2 _).other (by omega) 3 _).other (by omega) 4 _)
  have HB7 : Hid (Below w.heap.size w w16) := Lib.hid (by rw [← hwn]; have hSv : w.heap.size ≤ S := by { have := HSZ.out; omega }; have hSx : w.heap.size ≤ S + 1 + 1 + 1 := by { have := HSZ.out; omega }; exact ((((((HBq.out.setCell (p := ⟨S + 1 + 1 + 1, 6, none⟩) hSx _).setCell (p := ⟨S, 0, none⟩) hSv _).setCell (p := ⟨S, 1, none⟩) hSv _).setCell (p := ⟨S, 2, none⟩) hSv _).setCell (p := ⟨S, 3, none⟩) hSv _).setCell (p := ⟨S, 4, none⟩) hSv _))
  have hz7 : S + 4 ≤ w16.heap.size := by rw [← hwn]; simp only [World.size_setCell]; omega
  have HWN := Lib.hid hwn
  clear hwn
  go_upto_region 9 with fail
  rw [HWN.out]
  clear HWN m0 m1 m2 m3 m4 f0 f1 f2 f3 f4 x0 x1 x2 x3 x4 x5 x6 x7 x8 x9 x10 g0 g1 g2 g3 g4 g5 g6 g7 g8 g9 g10
  clear HBq HPq HYq HRq HXq hzq
  have HCL : Hid (Calls Tryz.prog 68 #[pv a N c stop ⟨n7, b7, at7⟩] w16 fun e w' => (∃ v zs, e = .returned (.tuple #[v, pv a N c stop (stepS L stop pAgainst ⟨n7, b7, at7⟩).1]) ∧ OwnStrs w16.heap.size w' v zs ∧ ∀ y, (stepS L stop pAgainst ⟨n7, b7, at7⟩).2 = some y → zs = y) ∧ Below w16.heap.size w16 w') := Lib.hid (zagainst_any B w16 a N c L stop ⟨n7, b7, at7⟩ HV.out HOKT.out hNb HLN.out (by have := HBX.out; have := HSZ.out; omega) (HL.out.below HB7.out HBX.out) HN7.out)
  have m0 := HP7.out.cell 0
  have m1 := HP7.out.cell 1
  have m2 := HP7.out.cell 2
  have m3 := HP7.out.cell 3
  have m4 := HP7.out.cell 4
  simp at m0 m1 m2 m3 m4
  go_wp2_with fail
  refine HCL.out.mono ?_
  clear HCL
  rintro e wq ⟨⟨v8, zs, rfl, ho, hag⟩, hb⟩
  have HAG := Lib.hid hag
  have HOq := Lib.hid ho
  clear ho hag
  have HBq : Hid (Below w.heap.size w wq) := Lib.hid (HB7.out.trans (hb.mono HB7.out.size))
  have HPq := Lib.hid (HP7.out.ext hb)
  have HYq := Lib.hid (HY7.out.ext hb)
  have HRq := Lib.hid (HR7.out.ext hb)
  have HXq := Lib.hid (HX7.out.ext hb)
  have hzq : S + 4 ≤ wq.heap.size := Nat.le_trans hz7 hb.size
  have HOqb : Hid (OwnStrs (S + 4) wq v8 zs) := Lib.hid (strs_mono HOq.out (by omega))
  have HOq := HOqb
  clear HOqb
  clear hb m0 m1 m2 m3 m4
  have hnk : (stepS L stop pAgainst ⟨n7, b7, at7⟩).1.n ≤ N := by rw [← HLN.out]; exact step_n (by rw [HLN.out]; exact HN7.out)
  obtain ⟨s8, hs8⟩ : ∃ s, (stepS L stop pAgainst ⟨n7, b7, at7⟩).1 = s := ⟨_, rfl⟩
  have HS8 := Lib.hid (And.intro hs8 HAG.out)
  rw [hs8]
  rw [hs8] at hnk
  clear hs8
  obtain ⟨n8, b8, at8⟩ := s8
  have HN8 : Hid (n8 ≤ N) := Lib.hid hnk
  clear hnk
  obtain ⟨a8, n8_, c8, rfl⟩ := HOq.out.form'
  unfold pv pvC
  simp only
  have m0 := HPq.out.cell 0
  have m1 := HPq.out.cell 1
  have m2 := HPq.out.cell 2
  have m3 := HPq.out.cell 3
  have m4 := HPq.out.cell 4
  simp at m0 m1 m2 m3 m4
  have f0 := HPq.out.free 0
  have f1 := HPq.out.free 1
  have f2 := HPq.out.free 2
  have f3 := HPq.out.free 3
  have f4 := HPq.out.free 4
  have x0 := HXq.out.cell 0
  have x1 := HXq.out.cell 1
  have x2 := HXq.out.cell 2
  have x3 := HXq.out.cell 3
  have x4 := HXq.out.cell 4
  have x5 := HXq.out.cell 5
  have x6 := HXq.out.cell 6
  have x7 := HXq.out.cell 7
  have x8 := HXq.out.cell 8
  have x9 := HXq.out.cell 9
  have x10 := HXq.out.cell 10
  simp at x0 x1 x2 x3 x4 x5 x6 x7 x8 x9 x10
  have g0 := HXq.out.free 0
  have g1 := HXq.out.free 1
  have g2 := HXq.out.free 2
  have g3 := HXq.out.free 3
  have g4 := HXq.out.free 4
  have g5 := HXq.out.free 5
  have g6 := HXq.out.free 6
  have g7 := HXq.out.free 7
  have g8 := HXq.out.free 8
  have g9 := HXq.out.free 9
  have g10 := HXq.out.free 10
  obtain ⟨w17, hwn⟩ : ∃ W, ((((((wq.setCell ⟨S + 1 + 1 + 1, 8, none⟩ (.slice a8 n8_ c8)).setCell ⟨S, 0, none⟩ (.slice a N c)).setCell ⟨S, 1, none⟩ (.int .i64 (n8 : Int))).setCell ⟨S, 2, none⟩ (.int .i64 stop)).setCell ⟨S, 3, none⟩ (.bool b8)).setCell ⟨S, 4, none⟩ (.int .i64 at8)) = W := ⟨_, rfl⟩
  have HP8 : Hid (CellsN w17 S #[.slice a N c, .int .i64 (n8 : Int), .int .i64 stop, .bool b8, .int .i64 at8]) := Lib.hid (by rw [← hwn]; have := (((((HPq.out.other (p := S + 1 + 1 + 1) (by omega) 8 (.slice a8 n8_ c8)).set 0 (.slice a N c)).set 1 (.int .i64 (n8 : Int))).set 2 (.int .i64 stop)).set 3 (.bool b8)).set 4 (.int .i64 at8); simpa using this)
  have HX8 : Hid (CellsN w17 (S + 1 + 1 + 1) #[.string y1, .string y2, .string y3, .string y4, .int .i64 ze, .int .i64 zf, .int .i64 zg, .int .i64 0, .slice a8 n8_ c8, .bool false, .int .i64 0]) := Lib.hid (by rw [← hwn]; have := HXq.out.set 8 (.slice a8 n8_ c8); have h2 := (((((this.other (p := S) (by omega) 0 (.slice a N c)).other (p := S) (by omega) 1 (.int .i64 (n8 : Int))).other (p := S) (by omega) 2 (.int .i64 stop)).other (p := S) (by omega) 3 (.bool b8)).other (p := S) (by omega) 4 (.int .i64 at8)); simpa using h2)
  have HY8 : Hid (CellsN w17 (S + 1) #[.string ⟨#[]⟩, .string ⟨#[]⟩, .string ⟨#[]⟩, .string ⟨#[]⟩, .int .i64 0, .int .i64 0, .int .i64 0, .int .i64 0, .slice none 0 0, .bool false, .int .i64 0]) := Lib.hid (by rw [← hwn]; exact (((((HYq.out.other (by omega) _ _).other (by omega) 0 _).other (by omega) 1 _).other (by omega) 2 _).other (by omega) 3 _).other (by omega) 4 _)
  have HR8 : Hid (CellsN w17 (S + 1 + 1) #[.slice none 0 0, .int .i64 0, .int .i64 0, .bool false, .int .i64 0]) := Lib.hid (by rw [← hwn]; exact (((((HRq.out.other (by omega) _ _).other (by omega) 0 _).other (by omega) 1 _).other (by omega) 2 _).other (by omega) 3 _).other (by omega) 4 _)
  have HB8 : Hid (Below w.heap.size w w17) := Lib.hid (by rw [← hwn]; have hSv : w.heap.size ≤ S := by { have := HSZ.out; omega }; have hSx : w.heap.size ≤ S + 1 + 1 + 1 := by { have := HSZ.out; omega }; exact ((((((HBq.out.setCell (p := ⟨S + 1 + 1 + 1, 8, none⟩) hSx _).setCell (p := ⟨S, 0, none⟩) hSv _).setCell (p := ⟨S, 1, none⟩) hSv _).setCell (p := ⟨S, 2, none⟩) hSv _).setCell (p := ⟨S, 3, none⟩) hSv _).setCell (p := ⟨S, 4, none⟩) hSv _))
  have hz8 : S + 4 ≤ w17.heap.size := by rw [← hwn]; simp only [World.size_setCell]; omega
  have HO8 : Hid (OwnStrs (S + 4) w17 (.slice a8 n8_ c8) zs) := Lib.hid (by rw [← hwn]; exact (strs_low (strs_low (strs_low (strs_low (strs_low (strs_low HOq.out (b := S + 1 + 1 + 1) (by omega)) (b := S) (by omega)) (b := S) (by omega)) (b := S) (by omega)) (b := S) (by omega)) (b := S) (by omega)))
  have HWN := Lib.hid hwn
  clear hwn
  go_upto_region 10 with fail
  rw [HWN.out]
  clear HWN m0 m1 m2 m3 m4 f0 f1 f2 f3 f4 x0 x1 x2 x3 x4 x5 x6 x7 x8 x9 x10 g0 g1 g2 g3 g4 g5 g6 g7 g8 g9 g10
  clear HBq HPq HYq HRq HXq hzq HOq
  have HCL : Hid (Calls Tryz.prog 67 #[pv a N c stop ⟨n8, b8, at8⟩, .string ⟨#[112, 97, 121]⟩, .int .i64 1099511627776] w17 fun e w' => e = .returned (.tuple #[.int .i64 ((stepS L stop (pWM wPay payM) ⟨n8, b8, at8⟩).2.getD 0), pv a N c stop (stepS L stop (pWM wPay payM) ⟨n8, b8, at8⟩).1]) ∧ Below w17.heap.size w17 w') := Lib.hid (znumber_any B w17 a N c L stop ⟨n8, b8, at8⟩ ⟨#[112, 97, 121]⟩ 1099511627776 (by decide) HV.out HLN.out (by have := HBX.out; have := HSZ.out; omega) (HL.out.below HB8.out HBX.out) HN8.out)
  have m0 := HP8.out.cell 0
  have m1 := HP8.out.cell 1
  have m2 := HP8.out.cell 2
  have m3 := HP8.out.cell 3
  have m4 := HP8.out.cell 4
  simp at m0 m1 m2 m3 m4
  go_wp2_with fail
  refine HCL.out.mono ?_
  clear HCL
  rintro e wq ⟨rfl, hb⟩
  have HBq : Hid (Below w.heap.size w wq) := Lib.hid (HB8.out.trans (hb.mono HB8.out.size))
  have HPq := Lib.hid (HP8.out.ext hb)
  have HYq := Lib.hid (HY8.out.ext hb)
  have HRq := Lib.hid (HR8.out.ext hb)
  have HXq := Lib.hid (HX8.out.ext hb)
  have hzq : S + 4 ≤ wq.heap.size := Nat.le_trans hz8 hb.size
  have HOq := Lib.hid (OwnRecs.below strK HO8.out hb (by omega))
  clear hb m0 m1 m2 m3 m4
  have hnk : (stepS L stop (pWM wPay payM) ⟨n8, b8, at8⟩).1.n ≤ N := by rw [← HLN.out]; exact step_n (by rw [HLN.out]; exact HN8.out)
  have HK9 := Lib.hid (show I64 ((stepS L stop (pWM wPay payM) ⟨n8, b8, at8⟩).2.getD 0) by rw [wm_step HV.out (by decide) (by rw [HLN.out]; exact HN8.out)]; exact num_ok HOKT.out (exp_n (by rw [HLN.out]; exact HN8.out)))
  obtain ⟨s9, hs9⟩ : ∃ s, (stepS L stop (pWM wPay payM) ⟨n8, b8, at8⟩).1 = s := ⟨_, rfl⟩
  obtain ⟨zh, hv9⟩ : ∃ z, (stepS L stop (pWM wPay payM) ⟨n8, b8, at8⟩).2.getD 0 = z := ⟨_, rfl⟩
  have HS9 := Lib.hid (And.intro hs9 hv9)
  rw [hs9, hv9]
  rw [hs9] at hnk
  rw [hv9] at HK9
  clear hs9 hv9
  obtain ⟨n9, b9, at9⟩ := s9
  have HN9 : Hid (n9 ≤ N) := Lib.hid hnk
  clear hnk
  unfold pv pvC
  simp only
  have m0 := HPq.out.cell 0
  have m1 := HPq.out.cell 1
  have m2 := HPq.out.cell 2
  have m3 := HPq.out.cell 3
  have m4 := HPq.out.cell 4
  simp at m0 m1 m2 m3 m4
  have f0 := HPq.out.free 0
  have f1 := HPq.out.free 1
  have f2 := HPq.out.free 2
  have f3 := HPq.out.free 3
  have f4 := HPq.out.free 4
  have x0 := HXq.out.cell 0
  have x1 := HXq.out.cell 1
  have x2 := HXq.out.cell 2
  have x3 := HXq.out.cell 3
  have x4 := HXq.out.cell 4
  have x5 := HXq.out.cell 5
  have x6 := HXq.out.cell 6
  have x7 := HXq.out.cell 7
  have x8 := HXq.out.cell 8
  have x9 := HXq.out.cell 9
  have x10 := HXq.out.cell 10
  simp at x0 x1 x2 x3 x4 x5 x6 x7 x8 x9 x10
  have g0 := HXq.out.free 0
  have g1 := HXq.out.free 1
  have g2 := HXq.out.free 2
  have g3 := HXq.out.free 3
  have g4 := HXq.out.free 4
  have g5 := HXq.out.free 5
  have g6 := HXq.out.free 6
  have g7 := HXq.out.free 7
  have g8 := HXq.out.free 8
  have g9 := HXq.out.free 9
  have g10 := HXq.out.free 10
  obtain ⟨w18, hwn⟩ : ∃ W, ((((((wq.setCell ⟨S + 1 + 1 + 1, 7, none⟩ (.int .i64 zh)).setCell ⟨S, 0, none⟩ (.slice a N c)).setCell ⟨S, 1, none⟩ (.int .i64 (n9 : Int))).setCell ⟨S, 2, none⟩ (.int .i64 stop)).setCell ⟨S, 3, none⟩ (.bool b9)).setCell ⟨S, 4, none⟩ (.int .i64 at9)) = W := ⟨_, rfl⟩
  have HP9 : Hid (CellsN w18 S #[.slice a N c, .int .i64 (n9 : Int), .int .i64 stop, .bool b9, .int .i64 at9]) := Lib.hid (by rw [← hwn]; have := (((((HPq.out.other (p := S + 1 + 1 + 1) (by omega) 7 (.int .i64 zh)).set 0 (.slice a N c)).set 1 (.int .i64 (n9 : Int))).set 2 (.int .i64 stop)).set 3 (.bool b9)).set 4 (.int .i64 at9); simpa using this)
  have HX9 : Hid (CellsN w18 (S + 1 + 1 + 1) #[.string y1, .string y2, .string y3, .string y4, .int .i64 ze, .int .i64 zf, .int .i64 zg, .int .i64 zh, .slice a8 n8_ c8, .bool false, .int .i64 0]) := Lib.hid (by rw [← hwn]; have := HXq.out.set 7 (.int .i64 zh); have h2 := (((((this.other (p := S) (by omega) 0 (.slice a N c)).other (p := S) (by omega) 1 (.int .i64 (n9 : Int))).other (p := S) (by omega) 2 (.int .i64 stop)).other (p := S) (by omega) 3 (.bool b9)).other (p := S) (by omega) 4 (.int .i64 at9)); simpa using h2)
  have HY9 : Hid (CellsN w18 (S + 1) #[.string ⟨#[]⟩, .string ⟨#[]⟩, .string ⟨#[]⟩, .string ⟨#[]⟩, .int .i64 0, .int .i64 0, .int .i64 0, .int .i64 0, .slice none 0 0, .bool false, .int .i64 0]) := Lib.hid (by rw [← hwn]; exact (((((HYq.out.other (by omega) _ _).other (by omega) 0 _).other (by omega) 1 _).other (by omega) 2 _).other (by omega) 3 _).other (by omega) 4 _)
  have HR9 : Hid (CellsN w18 (S + 1 + 1) #[.slice none 0 0, .int .i64 0, .int .i64 0, .bool false, .int .i64 0]) := Lib.hid (by rw [← hwn]; exact (((((HRq.out.other (by omega) _ _).other (by omega) 0 _).other (by omega) 1 _).other (by omega) 2 _).other (by omega) 3 _).other (by omega) 4 _)
  have HB9 : Hid (Below w.heap.size w w18) := Lib.hid (by rw [← hwn]; have hSv : w.heap.size ≤ S := by { have := HSZ.out; omega }; have hSx : w.heap.size ≤ S + 1 + 1 + 1 := by { have := HSZ.out; omega }; exact ((((((HBq.out.setCell (p := ⟨S + 1 + 1 + 1, 7, none⟩) hSx _).setCell (p := ⟨S, 0, none⟩) hSv _).setCell (p := ⟨S, 1, none⟩) hSv _).setCell (p := ⟨S, 2, none⟩) hSv _).setCell (p := ⟨S, 3, none⟩) hSv _).setCell (p := ⟨S, 4, none⟩) hSv _))
  have hz9 : S + 4 ≤ w18.heap.size := by rw [← hwn]; simp only [World.size_setCell]; omega
  have HO9 : Hid (OwnStrs (S + 4) w18 (.slice a8 n8_ c8) zs) := Lib.hid (by rw [← hwn]; exact (strs_low (strs_low (strs_low (strs_low (strs_low (strs_low HOq.out (b := S + 1 + 1 + 1) (by omega)) (b := S) (by omega)) (b := S) (by omega)) (b := S) (by omega)) (b := S) (by omega)) (b := S) (by omega)))
  have HWN := Lib.hid hwn
  clear hwn
  go_upto_region 11 with fail
  rw [HWN.out]
  clear HWN m0 m1 m2 m3 m4 f0 f1 f2 f3 f4 x0 x1 x2 x3 x4 x5 x6 x7 x8 x9 x10 g0 g1 g2 g3 g4 g5 g6 g7 g8 g9 g10
  clear HBq HPq HYq HRq HXq hzq HOq
  have m0 := HP9.out.cell 0
  have m1 := HP9.out.cell 1
  have m2 := HP9.out.cell 2
  have m3 := HP9.out.cell 3
  have m4 := HP9.out.cell 4
  simp at m0 m1 m2 m3 m4
  have HNXb : Hid (Calls Tryz.prog 69 #[pv a N c stop ⟨n9, b9, at9⟩, .int .i64 1, .string ⟨#[98, 97, 99, 107]⟩] w18 fun e w' => e = .returned (.bool (nextB L ⟨n9, b9, at9⟩ 1 wBack)) ∧ Below w18.heap.size w18 w') := Lib.hid (znext_any B w18 a N c L stop ⟨n9, b9, at9⟩ 1 ⟨#[98, 97, 99, 107]⟩ HLN.out (by have := HBX.out; have := HSZ.out; omega) (HL.out.below HB9.out HBX.out) HN9.out)
  go_wp2_with fail
  refine HNXb.out.mono ?_
  clear HNXb
  rintro e wb ⟨rfl, hb⟩
  have HBb : Hid (Below w.heap.size w wb) := Lib.hid (HB9.out.trans (hb.mono HB9.out.size))
  have HPb := Lib.hid (HP9.out.ext hb)
  have HYb := Lib.hid (HY9.out.ext hb)
  have HRb := Lib.hid (HR9.out.ext hb)
  have HXb := Lib.hid (HX9.out.ext hb)
  have hzb : S + 4 ≤ wb.heap.size := Nat.le_trans hz9 hb.size
  have HOb := Lib.hid (OwnRecs.below strK HO9.out hb (by omega))
  clear hb m0 m1 m2 m3 m4
  obtain ⟨nb, hnb⟩ : ∃ b, nextB L ⟨n9, b9, at9⟩ 1 wBack = b := ⟨_, rfl⟩
  have HNB := Lib.hid hnb
  have HBS := Lib.hid (back_step (stop := stop) HV.out (s := ⟨n9, b9, at9⟩) (by rw [HLN.out]; exact HN9.out))
  rw [hnb] at HBS ⊢
  clear hnb
  cases nb with
  | false =>
    have HS10 : Hid ((stepS L stop pBack ⟨n9, b9, at9⟩).1 = ⟨n9, b9, at9⟩ ∧ ∀ x, (stepS L stop pBack ⟨n9, b9, at9⟩).2 = some x → false = x) := Lib.hid (by
      rw [HBS.out]
      refine ⟨rfl, fun x hx => ?_⟩
      simp only [Bool.false_eq_true, if_false] at hx
      split at hx
      · cases hx
      · exact Option.some.inj hx)
    have HEL : Hid (Calls Tryz.prog 71 #[pv a N c stop ⟨n9, b9, at9⟩] wb fun e w' => (∃ m, e = .returned (.tuple #[.int .i64 m, pv a N c stop (stepS L stop pElse ⟨n9, b9, at9⟩).1]) ∧ (∀ y, (stepS L stop pElse ⟨n9, b9, at9⟩).2 = some y → m = y) ∧ (m = 0 ∨ m = 1 ∨ m = 2)) ∧ Below wb.heap.size wb w') := Lib.hid (zelse_any B wb a N c L stop ⟨n9, b9, at9⟩ HV.out HLN.out (by have := HBX.out; have := HSZ.out; omega) (HL.out.below HBb.out HBX.out) HN9.out)
    have m0 := HPb.out.cell 0
    have m1 := HPb.out.cell 1
    have m2 := HPb.out.cell 2
    have m3 := HPb.out.cell 3
    have m4 := HPb.out.cell 4
    simp at m0 m1 m2 m3 m4
    go_wp2_with fail
    refine HEL.out.mono ?_
    clear HEL
    rintro e wq ⟨⟨em, rfl, he1, he2⟩, hb⟩
    have HEM := Lib.hid he2
    have HBq : Hid (Below w.heap.size w wq) := Lib.hid (HBb.out.trans (hb.mono HBb.out.size))
    have HPq := Lib.hid (HPb.out.ext hb)
    have HYq := Lib.hid (HYb.out.ext hb)
    have HRq := Lib.hid (HRb.out.ext hb)
    have HXq := Lib.hid (HXb.out.ext hb)
    have hzq : S + 4 ≤ wq.heap.size := Nat.le_trans hzb hb.size
    have HOq := Lib.hid (OwnRecs.below strK HOb.out hb (by omega))
    clear hb m0 m1 m2 m3 m4 he2
    have hnk : (stepS L stop pElse ⟨n9, b9, at9⟩).1.n ≤ N := by rw [← HLN.out]; exact step_n (by rw [HLN.out]; exact HN9.out)
    obtain ⟨s11, hs11⟩ : ∃ s, (stepS L stop pElse ⟨n9, b9, at9⟩).1 = s := ⟨_, rfl⟩
    have HS11 := Lib.hid (And.intro hs11 he1)
    rw [hs11]
    rw [hs11] at hnk
    clear hs11 he1
    obtain ⟨n11, b11, at11⟩ := s11
    have HN11 : Hid (n11 ≤ N) := Lib.hid hnk
    clear hnk
    unfold pv pvC
    simp only
    have m0 := HPq.out.cell 0
    have m1 := HPq.out.cell 1
    have m2 := HPq.out.cell 2
    have m3 := HPq.out.cell 3
    have m4 := HPq.out.cell 4
    simp at m0 m1 m2 m3 m4
    have f0 := HPq.out.free 0
    have f1 := HPq.out.free 1
    have f2 := HPq.out.free 2
    have f3 := HPq.out.free 3
    have f4 := HPq.out.free 4
    have x0 := HXq.out.cell 0
    have x1 := HXq.out.cell 1
    have x2 := HXq.out.cell 2
    have x3 := HXq.out.cell 3
    have x4 := HXq.out.cell 4
    have x5 := HXq.out.cell 5
    have x6 := HXq.out.cell 6
    have x7 := HXq.out.cell 7
    have x8 := HXq.out.cell 8
    have x9 := HXq.out.cell 9
    have x10 := HXq.out.cell 10
    simp at x0 x1 x2 x3 x4 x5 x6 x7 x8 x9 x10
    have g0 := HXq.out.free 0
    have g1 := HXq.out.free 1
    have g2 := HXq.out.free 2
    have g3 := HXq.out.free 3
    have g4 := HXq.out.free 4
    have g5 := HXq.out.free 5
    have g6 := HXq.out.free 6
    have g7 := HXq.out.free 7
    have g8 := HXq.out.free 8
    have g9 := HXq.out.free 9
    have g10 := HXq.out.free 10
    obtain ⟨wz, hwn⟩ : ∃ W, ((((((wq.setCell ⟨S + 1 + 1 + 1, 10, none⟩ (.int .i64 em)).setCell ⟨S, 0, none⟩ (.slice a N c)).setCell ⟨S, 1, none⟩ (.int .i64 (n11 : Int))).setCell ⟨S, 2, none⟩ (.int .i64 stop)).setCell ⟨S, 3, none⟩ (.bool b11)).setCell ⟨S, 4, none⟩ (.int .i64 at11)) = W := ⟨_, rfl⟩
    have HPz : Hid (CellsN wz S #[.slice a N c, .int .i64 (n11 : Int), .int .i64 stop, .bool b11, .int .i64 at11]) := Lib.hid (by rw [← hwn]; have := (((((HPq.out.other (p := S + 1 + 1 + 1) (by omega) 10 (.int .i64 em)).set 0 (.slice a N c)).set 1 (.int .i64 (n11 : Int))).set 2 (.int .i64 stop)).set 3 (.bool b11)).set 4 (.int .i64 at11); simpa using this)
    have HXz : Hid (CellsN wz (S + 1 + 1 + 1) #[.string y1, .string y2, .string y3, .string y4, .int .i64 ze, .int .i64 zf, .int .i64 zg, .int .i64 zh, .slice a8 n8_ c8, .bool false, .int .i64 em]) := Lib.hid (by rw [← hwn]; have := HXq.out.set 10 (.int .i64 em); have h2 := (((((this.other (p := S) (by omega) 0 (.slice a N c)).other (p := S) (by omega) 1 (.int .i64 (n11 : Int))).other (p := S) (by omega) 2 (.int .i64 stop)).other (p := S) (by omega) 3 (.bool b11)).other (p := S) (by omega) 4 (.int .i64 at11)); simpa using h2)
    have HYz : Hid (CellsN wz (S + 1) #[.string ⟨#[]⟩, .string ⟨#[]⟩, .string ⟨#[]⟩, .string ⟨#[]⟩, .int .i64 0, .int .i64 0, .int .i64 0, .int .i64 0, .slice none 0 0, .bool false, .int .i64 0]) := Lib.hid (by rw [← hwn]; exact (((((HYq.out.other (by omega) _ _).other (by omega) 0 _).other (by omega) 1 _).other (by omega) 2 _).other (by omega) 3 _).other (by omega) 4 _)
    have HRz : Hid (CellsN wz (S + 1 + 1) #[.slice none 0 0, .int .i64 0, .int .i64 0, .bool false, .int .i64 0]) := Lib.hid (by rw [← hwn]; exact (((((HRq.out.other (by omega) _ _).other (by omega) 0 _).other (by omega) 1 _).other (by omega) 2 _).other (by omega) 3 _).other (by omega) 4 _)
    have HBz : Hid (Below w.heap.size w wz) := Lib.hid (by rw [← hwn]; have hSv : w.heap.size ≤ S := by { have := HSZ.out; omega }; have hSx : w.heap.size ≤ S + 1 + 1 + 1 := by { have := HSZ.out; omega }; exact ((((((HBq.out.setCell (p := ⟨S + 1 + 1 + 1, 10, none⟩) hSx _).setCell (p := ⟨S, 0, none⟩) hSv _).setCell (p := ⟨S, 1, none⟩) hSv _).setCell (p := ⟨S, 2, none⟩) hSv _).setCell (p := ⟨S, 3, none⟩) hSv _).setCell (p := ⟨S, 4, none⟩) hSv _))
    have hzz : S + 4 ≤ wz.heap.size := by rw [← hwn]; simp only [World.size_setCell]; omega
    have HOz : Hid (OwnStrs (S + 4) wz (.slice a8 n8_ c8) zs) := Lib.hid (by rw [← hwn]; exact (strs_low (strs_low (strs_low (strs_low (strs_low (strs_low HOq.out (b := S + 1 + 1 + 1) (by omega)) (b := S) (by omega)) (b := S) (by omega)) (b := S) (by omega)) (b := S) (by omega)) (b := S) (by omega)))
    have HWN := Lib.hid hwn
    clear hwn
    go_wp2
    rw [HWN.out]
    clear HWN m0 m1 m2 m3 m4 f0 f1 f2 f3 f4 x0 x1 x2 x3 x4 x5 x6 x7 x8 x9 x10 g0 g1 g2 g3 g4 g5 g6 g7 g8 g9 g10
    clear HBq HPq HYq HRq HXq hzq HOq
    have HCH := Lib.hid (order_chain HV.out (s0 := ⟨n, bad, at_⟩) (by rw [HLN.out]; exact HN.out) HS1.out HS2.out HS3.out HS4.out HS5.out HS6.out HS7.out HS8.out HS9.out (bk := false) (s10 := ⟨n9, b9, at9⟩) HS10.out HS11.out)
    have HXX : Hid (∀ W, Below w.heap.size w W → S + 4 ≤ W.heap.size → Calls Tryz.prog 72 #[pv a N c stop ⟨n11, b11, at11⟩, .int .i64 3, .string ⟨#[59]⟩] W fun e w' => e = .returned (pv a N c stop (expS L stop ⟨n11, b11, at11⟩ 3 sSemi)) ∧ Below W.heap.size W w') := Lib.hid (fun W hW hz => zexpect_any B W a N c L stop ⟨n11, b11, at11⟩ 3 ⟨#[59]⟩ HLN.out (by have := HBX.out; have := HSZ.out; omega) (HL.out.below hW HBX.out) HN11.out)
    obtain ⟨s5, hs5⟩ : ∃ s, expS L stop ⟨n11, b11, at11⟩ 3 sSemi = s := ⟨_, rfl⟩
    rw [hs5] at HXX HCH
    clear hs5
    obtain ⟨n12, b12, at12⟩ := s5
    unfold pv pvC at HXX
    simp only at HXX
    have HDR' : Hid (Below w.heap.size wz wz.drew) := Lib.hid (Below.refl _ _).drew
    have HOz2 : Hid (OwnStrs (S + 4) wz.drew (.slice a8 n8_ c8) zs) := Lib.hid (strs_draw HOz.out)
    obtain ⟨V, hV⟩ : ∃ V : List (Option Value), V = [some (.agg #[.string y1, .string y2, .string y3, .string y4, .int .i64 ze, .int .i64 zf, .int .i64 zg, .int .i64 zh, .slice a8 n8_ c8, .bool false, .int .i64 em]), some (.agg #[.slice a N c, .int .i64 (n11 : Int), .int .i64 stop, .bool b11, .int .i64 at11]), some (.agg #[.slice a N c, .int .i64 (n12 : Int), .int .i64 stop, .bool b12, .int .i64 at12]), none, none] := ⟨_, rfl⟩
    have HVV := Lib.hid hV
    clear hV
    refine wp_region_V [some 71, some 72, some 73, none, none] (fun L w' xs => ValsAt V L xs ∧ (Below w.heap.size w w' ∧ S + 4 ≤ w'.heap.size ∧ CellsN w' S #[.slice a N c, .int .i64 (n11 : Int), .int .i64 stop, .bool b11, .int .i64 at11] ∧ CellsN w' (S + 1 + 1 + 1) #[.string y1, .string y2, .string y3, .string y4, .int .i64 ze, .int .i64 zf, .int .i64 zg, .int .i64 zh, .slice a8 n8_ c8, .bool false, .int .i64 em] ∧ OwnStrs (S + 4) w' (.slice a8 n8_ c8) zs ∧ CellsN w' (S + 1) (if L 3 = true then #[.string y1, .string y2, .string y3, .string y4, .int .i64 ze, .int .i64 zf, .int .i64 zg, .int .i64 zh, .slice a8 n8_ c8, .bool false, .int .i64 em] else #[.string ⟨#[]⟩, .string ⟨#[]⟩, .string ⟨#[]⟩, .string ⟨#[]⟩, .int .i64 0, .int .i64 0, .int .i64 0, .int .i64 0, .slice none 0 0, .bool false, .int .i64 0]) ∧ CellsN w' (S + 1 + 1) (if L 4 = true then #[.slice a N c, .int .i64 (n12 : Int), .int .i64 stop, .bool b12, .int .i64 at12] else #[.slice none 0 0, .int .i64 0, .int .i64 0, .bool false, .int .i64 0]))) (by kernel_rfl) (by kernel_rfl) (by rfl) (by rfl) (by rfl) ?_ ?_ ?_
    focus
      exact fun xs => ⟨ValsAt.none _ _, HBz.out.trans HDR'.out, hzz, HPz.out, HXz.out, HOz2.out, HYz.out, HRz.out⟩
    focus
      refine ⟨?_, ?_, ?_, ?_, ?_, trivial⟩
      all_goals
        intro L a' w' xs hi hd hf hJ K hK
        obtain ⟨hv, hb, hz, hp, hx, ho, hy, hr⟩ := hJ
        have HF := Lib.hid hf
        have HVA := Lib.hid hv
        have HLI := Lib.hid hi
        clear hf hv hi
      focus
        clear hd
        obtain ⟨ρ, hρ⟩ : ∃ ρ, a'.eval = ρ := ⟨_, rfl⟩
        have hcst : ∀ v, ρ (.const v) = v := fun v => (congrFun hρ (.const v)).symm
        have l4 : ρ (.tmp 4) = .pointer (some ⟨S + 1 + 1 + 1, 0, none⟩) := (congrFun hρ (.tmp 4)).symm.trans (HF.out.lo 4 rfl)
        rw [if_pos (by simp [Region.wanted])]
        unfold Oper.wp
        rw [hρ]
        clear hρ
        have Hhb := Lib.hid hb
        have Hhp := Lib.hid hp
        have Hhx := Lib.hid hx
        have Hho := Lib.hid ho
        have Hhy := Lib.hid hy
        have Hhr := Lib.hid hr
        clear hb hp hx ho hy hr
        have c0 := Hhx.out.cell 0
        have c1 := Hhx.out.cell 1
        have c2 := Hhx.out.cell 2
        have c3 := Hhx.out.cell 3
        have c4 := Hhx.out.cell 4
        have c5 := Hhx.out.cell 5
        have c6 := Hhx.out.cell 6
        have c7 := Hhx.out.cell 7
        have c8 := Hhx.out.cell 8
        have c9 := Hhx.out.cell 9
        have c10 := Hhx.out.cell 10
        simp at c0 c1 c2 c3 c4 c5 c6 c7 c8 c9 c10
        go_simp
        exact hK.out _ _ ⟨HVA.out.set (i := 0) (by rw [HVV.out]; rfl), Hhb.out, hz, Hhp.out, Hhx.out, Hho.out, by simp only [upd_ne (L := L) (show (3 : Nat) ≠ 0 by decide)]; exact Hhy.out, by simp only [upd_ne (L := L) (show (4 : Nat) ≠ 0 by decide)]; exact Hhr.out⟩
      focus
        clear hd
        obtain ⟨ρ, hρ⟩ : ∃ ρ, a'.eval = ρ := ⟨_, rfl⟩
        have hcst : ∀ v, ρ (.const v) = v := fun v => (congrFun hρ (.const v)).symm
        have l1 : ρ (.tmp 1) = .pointer (some ⟨S, 0, none⟩) := (congrFun hρ (.tmp 1)).symm.trans (HF.out.lo 1 rfl)
        rw [if_pos (by simp [Region.wanted])]
        unfold Oper.wp
        rw [hρ]
        clear hρ
        have Hhb := Lib.hid hb
        have Hhp := Lib.hid hp
        have Hhx := Lib.hid hx
        have Hho := Lib.hid ho
        have Hhy := Lib.hid hy
        have Hhr := Lib.hid hr
        clear hb hp hx ho hy hr
        have c0 := Hhp.out.cell 0
        have c1 := Hhp.out.cell 1
        have c2 := Hhp.out.cell 2
        have c3 := Hhp.out.cell 3
        have c4 := Hhp.out.cell 4
        simp at c0 c1 c2 c3 c4
        go_simp
        exact hK.out _ _ ⟨HVA.out.set (i := 1) (by rw [HVV.out]; rfl), Hhb.out, hz, Hhp.out, Hhx.out, Hho.out, by simp only [upd_ne (L := L) (show (3 : Nat) ≠ 1 by decide)]; exact Hhy.out, by simp only [upd_ne (L := L) (show (4 : Nat) ≠ 1 by decide)]; exact Hhr.out⟩
      focus
        obtain ⟨d1, _⟩ := hd
        obtain ⟨ρ, hρ⟩ : ∃ ρ, a'.eval = ρ := ⟨_, rfl⟩
        have hcst : ∀ v, ρ (.const v) = v := fun v => (congrFun hρ (.const v)).symm
        have hfun : ∀ k, ρ (.func k) = .func (.func k) #[] #[] := fun k => (congrFun hρ (.func k)).symm
        have v1 : ρ (.tmp 72) = .agg #[.slice a N c, .int .i64 (n11 : Int), .int .i64 stop, .bool b11, .int .i64 at11] := (congrFun hρ (.tmp 72)).symm.trans ((HF.out.ev 1 rfl d1).trans (HVA.out 1 _ (by rw [HVV.out]; rfl) d1))
        rw [if_pos (by simp [Region.wanted])]
        unfold Oper.wp
        rw [hρ]
        clear hρ
        have Hhb := Lib.hid hb
        have Hhp := Lib.hid hp
        have Hhx := Lib.hid hx
        have Hho := Lib.hid ho
        have Hhy := Lib.hid hy
        have Hhr := Lib.hid hr
        clear hb hp hx ho hy hr
        go_simp
        go_at_call 72
        refine (HXX.out w' Hhb.out hz).mono ?_
        rintro e w5 ⟨rfl, hb5⟩
        have Hb5 := Lib.hid hb5
        clear hb5
        exact hK.out _ _ ⟨HVA.out.set (i := 2) (by rw [HVV.out]; rfl), Hhb.out.trans (Hb5.out.mono Hhb.out.size), Nat.le_trans hz Hb5.out.size, Hhp.out.ext Hb5.out, Hhx.out.ext Hb5.out, OwnRecs.below strK Hho.out Hb5.out (by omega), by simp only [upd_ne (L := L) (show (3 : Nat) ≠ 2 by decide)]; exact Hhy.out.ext Hb5.out, by simp only [upd_ne (L := L) (show (4 : Nat) ≠ 2 by decide)]; exact Hhr.out.ext Hb5.out⟩
      focus
        obtain ⟨d0, d2, _, _⟩ := hd
        obtain ⟨ρ, hρ⟩ : ∃ ρ, a'.eval = ρ := ⟨_, rfl⟩
        have hcst : ∀ v, ρ (.const v) = v := fun v => (congrFun hρ (.const v)).symm
        have l2 : ρ (.tmp 2) = .pointer (some ⟨S + 1, 0, none⟩) := (congrFun hρ (.tmp 2)).symm.trans (HF.out.lo 2 rfl)
        have v0 : ρ (.tmp 71) = .agg #[.string y1, .string y2, .string y3, .string y4, .int .i64 ze, .int .i64 zf, .int .i64 zg, .int .i64 zh, .slice a8 n8_ c8, .bool false, .int .i64 em] := (congrFun hρ (.tmp 71)).symm.trans ((HF.out.ev 0 rfl d0).trans (HVA.out 0 _ (by rw [HVV.out]; rfl) d0))
        rw [if_pos (by simp [Region.wanted])]
        unfold Oper.wp
        rw [hρ]
        clear hρ
        have Hhb := Lib.hid hb
        have Hhp := Lib.hid hp
        have Hhx := Lib.hid hx
        have Hho := Lib.hid ho
        have Hhy := Lib.hid hy
        have Hhr := Lib.hid hr
        clear hb hp hx ho hy hr
        have Hhy2 : Hid (CellsN w' (S + 1) #[.string ⟨#[]⟩, .string ⟨#[]⟩, .string ⟨#[]⟩, .string ⟨#[]⟩, .int .i64 0, .int .i64 0, .int .i64 0, .int .i64 0, .slice none 0 0, .bool false, .int .i64 0]) := Lib.hid (by have := Hhy.out; rw [HLI.out] at this; exact this)
        have q0 := Hhy2.out.cell 0
        have q1 := Hhy2.out.cell 1
        have q2 := Hhy2.out.cell 2
        have q3 := Hhy2.out.cell 3
        have q4 := Hhy2.out.cell 4
        have q5 := Hhy2.out.cell 5
        have q6 := Hhy2.out.cell 6
        have q7 := Hhy2.out.cell 7
        have q8 := Hhy2.out.cell 8
        have q9 := Hhy2.out.cell 9
        have q10 := Hhy2.out.cell 10
        simp at q0 q1 q2 q3 q4 q5 q6 q7 q8 q9 q10
        have fq0 := Hhy2.out.free 0
        have fq1 := Hhy2.out.free 1
        have fq2 := Hhy2.out.free 2
        have fq3 := Hhy2.out.free 3
        have fq4 := Hhy2.out.free 4
        have fq5 := Hhy2.out.free 5
        have fq6 := Hhy2.out.free 6
        have fq7 := Hhy2.out.free 7
        have fq8 := Hhy2.out.free 8
        have fq9 := Hhy2.out.free 9
        have fq10 := Hhy2.out.free 10
        go_simp
        exact hK.out _ (storeN w' (S + 1) 0 [.string y1, .string y2, .string y3, .string y4, .int .i64 ze, .int .i64 zf, .int .i64 zg, .int .i64 zh, .slice a8 n8_ c8, .bool false, .int .i64 em]) ⟨HVA.out.free (i := 3) (by rw [HVV.out]; rfl) undef, storeN_below (by have := HSZ.out; omega) _ 0 _ Hhb.out, by rw [storeN_size]; exact hz, storeN_other (by omega) _ 0 _ Hhp.out, storeN_other (by omega) _ 0 _ Hhx.out, storeN_own (by omega) _ 0 _ Hho.out, by rw [if_pos (upd_self _ _)]; exact storeN_set Hhy2.out _ rfl, by simp only [upd_ne (L := L) (show (4 : Nat) ≠ 3 by decide)]; exact storeN_other (by omega) _ 0 _ Hhr.out⟩
      focus
        obtain ⟨d2, d3, d0, d1, _, _, _⟩ := hd
        obtain ⟨ρ, hρ⟩ : ∃ ρ, a'.eval = ρ := ⟨_, rfl⟩
        have hcst : ∀ v, ρ (.const v) = v := fun v => (congrFun hρ (.const v)).symm
        have l3 : ρ (.tmp 3) = .pointer (some ⟨S + 1 + 1, 0, none⟩) := (congrFun hρ (.tmp 3)).symm.trans (HF.out.lo 3 rfl)
        have v2 : ρ (.tmp 73) = .agg #[.slice a N c, .int .i64 (n12 : Int), .int .i64 stop, .bool b12, .int .i64 at12] := (congrFun hρ (.tmp 73)).symm.trans ((HF.out.ev 2 rfl d2).trans (HVA.out 2 _ (by rw [HVV.out]; rfl) d2))
        rw [if_pos (by simp [Region.wanted])]
        unfold Oper.wp
        rw [hρ]
        clear hρ
        have Hhb := Lib.hid hb
        have Hhp := Lib.hid hp
        have Hhx := Lib.hid hx
        have Hho := Lib.hid ho
        have Hhy := Lib.hid hy
        have Hhr := Lib.hid hr
        clear hb hp hx ho hy hr
        have Hhr2 : Hid (CellsN w' (S + 1 + 1) #[.slice none 0 0, .int .i64 0, .int .i64 0, .bool false, .int .i64 0]) := Lib.hid (by have := Hhr.out; rw [HLI.out] at this; exact this)
        have r0 := Hhr2.out.cell 0
        have r1 := Hhr2.out.cell 1
        have r2 := Hhr2.out.cell 2
        have r3 := Hhr2.out.cell 3
        have r4 := Hhr2.out.cell 4
        simp at r0 r1 r2 r3 r4
        have fr0 := Hhr2.out.free 0
        have fr1 := Hhr2.out.free 1
        have fr2 := Hhr2.out.free 2
        have fr3 := Hhr2.out.free 3
        have fr4 := Hhr2.out.free 4
        go_simp
        exact hK.out _ (storeN w' (S + 1 + 1) 0 [.slice a N c, .int .i64 (n12 : Int), .int .i64 stop, .bool b12, .int .i64 at12]) ⟨HVA.out.free (i := 4) (by rw [HVV.out]; rfl) undef, storeN_below (by have := HSZ.out; omega) _ 0 _ Hhb.out, by rw [storeN_size]; exact hz, storeN_other (by omega) _ 0 _ Hhp.out, storeN_other (by omega) _ 0 _ Hhx.out, storeN_own (by omega) _ 0 _ Hho.out, by simp only [upd_ne (L := L) (show (3 : Nat) ≠ 4 by decide)]; exact storeN_other (by omega) _ 0 _ Hhy.out, by rw [if_pos (upd_self _ _)]; exact storeN_set Hhr2.out _ rfl⟩
    focus
      intro L w' xs hL hJ
      obtain ⟨hv, hb, hz, hp, hx, ho, hy, hr⟩ := hJ
      have e0 : xs 0 = .agg #[.string y1, .string y2, .string y3, .string y4, .int .i64 ze, .int .i64 zf, .int .i64 zg, .int .i64 zh, .slice a8 n8_ c8, .bool false, .int .i64 em] := hv 0 _ (by rw [HVV.out]; rfl) (hL 0 (by decide))
      have e1 : xs 1 = .agg #[.slice a N c, .int .i64 (n11 : Int), .int .i64 stop, .bool b11, .int .i64 at11] := hv 1 _ (by rw [HVV.out]; rfl) (hL 1 (by decide))
      have e2 : xs 2 = .agg #[.slice a N c, .int .i64 (n12 : Int), .int .i64 stop, .bool b12, .int .i64 at12] := hv 2 _ (by rw [HVV.out]; rfl) (hL 2 (by decide))
      simp only [putGo, Act.put, List.setIfInBounds_toArray, List.set_cons_zero, List.set_cons_succ, e0, e1, e2]
      clear hv e0 e1 e2
      rw [if_pos (hL 3 (by decide))] at hy
      rw [if_pos (hL 4 (by decide))] at hr
      have q0 := hy.cell 0
      have q1 := hy.cell 1
      have q2 := hy.cell 2
      have q3 := hy.cell 3
      have q4 := hy.cell 4
      have q5 := hy.cell 5
      have q6 := hy.cell 6
      have q7 := hy.cell 7
      have q8 := hy.cell 8
      have q9 := hy.cell 9
      have q10 := hy.cell 10
      simp at q0 q1 q2 q3 q4 q5 q6 q7 q8 q9 q10
      have r0 := hr.cell 0
      have r1 := hr.cell 1
      have r2 := hr.cell 2
      have r3 := hr.cell 3
      have r4 := hr.cell 4
      simp at r0 r1 r2 r3 r4
      have HBF := Lib.hid hb
      have HOF := Lib.hid ho
      clear hp hx hy hr hb ho
      go_wp2
      refine bodyPost_ret (v := .tuple #[.agg #[.string y1, .string y2, .string y3, .string y4, .int .i64 ze, .int .i64 zf, .int .i64 zg, .int .i64 zh, .slice a8 n8_ c8, .bool false, .int .i64 em], .agg #[.slice a N c, .int .i64 (n12 : Int), .int .i64 stop, .bool b12, .int .i64 at12]]) (by simp [results, Tryz.results46, go_sem, q0, q1, q2, q3, q4, q5, q6, q7, q8, q9, q10, r0, r1, r2, r3, r4]) rfl ⟨⟨.slice a8 n8_ c8, ⟨za, zb, zc, zd, ze, zf, zg, zh, zs, false, em⟩, ?_, strs_mono HOF.out (by have := HSZ.out; omega), ⟨HK1.out, HK2.out, HK3.out, HK4.out, HK5.out, HK6.out, HK7.out, HK9.out, ?_⟩, fun y hy => ?_⟩, HBF.out⟩
      · rw [HCH.out]
        unfold wishV wishC
        simp only [HYY1.out, HYY2.out, HYY3.out, HYY4.out]
        try rfl
      · show I64 em
        unfold I64
        rcases HEM.out with h | h | h <;> (rw [h]; decide)
      · rw [HCH.out] at hy
        simp only at hy
        split at hy
        · exact Option.some.inj hy
        · cases hy
  | true =>
    obtain ⟨wc, hwc⟩ : ∃ W, wb.setCell ⟨S + 1 + 1 + 1, 9, none⟩ (.bool true) = W := ⟨_, rfl⟩
    have HPc : Hid (CellsN wc S #[.slice a N c, .int .i64 (n9 : Int), .int .i64 stop, .bool b9, .int .i64 at9]) := Lib.hid (by rw [← hwc]; exact HPb.out.other (by omega) _ _)
    have HXc : Hid (CellsN wc (S + 1 + 1 + 1) #[.string y1, .string y2, .string y3, .string y4, .int .i64 ze, .int .i64 zf, .int .i64 zg, .int .i64 zh, .slice a8 n8_ c8, .bool true, .int .i64 0]) := Lib.hid (by rw [← hwc]; have := HXb.out.set 9 (.bool true); simpa using this)
    have HYc : Hid (CellsN wc (S + 1) #[.string ⟨#[]⟩, .string ⟨#[]⟩, .string ⟨#[]⟩, .string ⟨#[]⟩, .int .i64 0, .int .i64 0, .int .i64 0, .int .i64 0, .slice none 0 0, .bool false, .int .i64 0]) := Lib.hid (by rw [← hwc]; exact HYb.out.other (by omega) _ _)
    have HRc : Hid (CellsN wc (S + 1 + 1) #[.slice none 0 0, .int .i64 0, .int .i64 0, .bool false, .int .i64 0]) := Lib.hid (by rw [← hwc]; exact HRb.out.other (by omega) _ _)
    have HBc : Hid (Below w.heap.size w wc) := Lib.hid (by rw [← hwc]; exact HBb.out.setCell (p := ⟨S + 1 + 1 + 1, 9, none⟩) (by have := HSZ.out; show w.heap.size ≤ S + 1 + 1 + 1; omega) _)
    have hzc : S + 4 ≤ wc.heap.size := by rw [← hwc]; simp only [World.size_setCell]; exact hzb
    have HOc : Hid (OwnStrs (S + 4) wc (.slice a8 n8_ c8) zs) := Lib.hid (by rw [← hwc]; exact strs_low HOb.out (by omega))
    have x9 := HXb.out.cell 9
    have g9 := HXb.out.free 9
    simp at x9
    have HWC := Lib.hid hwc
    clear hwc
    go_upto_region 13 with fail
    rw [HWC.out]
    clear x9 g9
    have HWD : Hid (Calls Tryz.prog 70 #[pv a N c stop ⟨n9, b9, at9⟩, .string ⟨#[98, 97, 99, 107]⟩] wc fun e w' => e = .returned (pv a N c stop (expS L stop ⟨n9, b9, at9⟩ 1 wBack)) ∧ Below wc.heap.size wc w') := Lib.hid (zword_any B wc a N c L stop ⟨n9, b9, at9⟩ ⟨#[98, 97, 99, 107]⟩ HLN.out (by have := HBX.out; have := HSZ.out; omega) (HL.out.below HBc.out HBX.out) HN9.out)
    have m0 := HPc.out.cell 0
    have m1 := HPc.out.cell 1
    have m2 := HPc.out.cell 2
    have m3 := HPc.out.cell 3
    have m4 := HPc.out.cell 4
    simp at m0 m1 m2 m3 m4
    go_wp2_with fail
    refine HWD.out.mono ?_
    clear HWD
    rintro e wd ⟨rfl, hb⟩
    have HBd : Hid (Below w.heap.size w wd) := Lib.hid (HBc.out.trans (hb.mono HBc.out.size))
    have HPd := Lib.hid (HPc.out.ext hb)
    have HYd := Lib.hid (HYc.out.ext hb)
    have HRd := Lib.hid (HRc.out.ext hb)
    have HXd := Lib.hid (HXc.out.ext hb)
    have hzd : S + 4 ≤ wd.heap.size := Nat.le_trans hzc hb.size
    have HOd := Lib.hid (OwnRecs.below strK HOc.out hb (by omega))
    clear hb m0 m1 m2 m3 m4
    have hnk : (expS L stop ⟨n9, b9, at9⟩ 1 wBack).n ≤ N := by rw [← HLN.out]; exact exp_n (by rw [HLN.out]; exact HN9.out)
    obtain ⟨s10, hs10⟩ : ∃ s, expS L stop ⟨n9, b9, at9⟩ 1 wBack = s := ⟨_, rfl⟩
    rw [hs10] at HBS hnk ⊢
    clear hs10
    have HS10 : Hid ((stepS L stop pBack ⟨n9, b9, at9⟩).1 = s10 ∧ ∀ x, (stepS L stop pBack ⟨n9, b9, at9⟩).2 = some x → true = x) := Lib.hid (by
      rw [HBS.out]
      refine ⟨rfl, fun x hx => ?_⟩
      simp only [if_true] at hx
      exact Option.some.inj hx)
    obtain ⟨n10, b10, at10⟩ := s10
    have HN10 : Hid (n10 ≤ N) := Lib.hid hnk
    clear hnk
    unfold pv pvC
    simp only
    have m0 := HPd.out.cell 0
    have m1 := HPd.out.cell 1
    have m2 := HPd.out.cell 2
    have m3 := HPd.out.cell 3
    have m4 := HPd.out.cell 4
    simp at m0 m1 m2 m3 m4
    have f0 := HPd.out.free 0
    have f1 := HPd.out.free 1
    have f2 := HPd.out.free 2
    have f3 := HPd.out.free 3
    have f4 := HPd.out.free 4
    obtain ⟨we, hwn⟩ : ∃ W, (((((wd.setCell ⟨S, 0, none⟩ (.slice a N c)).setCell ⟨S, 1, none⟩ (.int .i64 (n10 : Int))).setCell ⟨S, 2, none⟩ (.int .i64 stop)).setCell ⟨S, 3, none⟩ (.bool b10)).setCell ⟨S, 4, none⟩ (.int .i64 at10)) = W := ⟨_, rfl⟩
    have HPe : Hid (CellsN we S #[.slice a N c, .int .i64 (n10 : Int), .int .i64 stop, .bool b10, .int .i64 at10]) := Lib.hid (by rw [← hwn]; have := ((((HPd.out.set 0 (.slice a N c)).set 1 (.int .i64 (n10 : Int))).set 2 (.int .i64 stop)).set 3 (.bool b10)).set 4 (.int .i64 at10); simpa using this)
    have HXe : Hid (CellsN we (S + 1 + 1 + 1) #[.string y1, .string y2, .string y3, .string y4, .int .i64 ze, .int .i64 zf, .int .i64 zg, .int .i64 zh, .slice a8 n8_ c8, .bool true, .int .i64 0]) := Lib.hid (by rw [← hwn]; exact ((((HXd.out.other (by omega) 0 _).other (by omega) 1 _).other (by omega) 2 _).other (by omega) 3 _).other (by omega) 4 _)
    have HYe : Hid (CellsN we (S + 1) #[.string ⟨#[]⟩, .string ⟨#[]⟩, .string ⟨#[]⟩, .string ⟨#[]⟩, .int .i64 0, .int .i64 0, .int .i64 0, .int .i64 0, .slice none 0 0, .bool false, .int .i64 0]) := Lib.hid (by rw [← hwn]; exact ((((HYd.out.other (by omega) 0 _).other (by omega) 1 _).other (by omega) 2 _).other (by omega) 3 _).other (by omega) 4 _)
    have HRe : Hid (CellsN we (S + 1 + 1) #[.slice none 0 0, .int .i64 0, .int .i64 0, .bool false, .int .i64 0]) := Lib.hid (by rw [← hwn]; exact ((((HRd.out.other (by omega) 0 _).other (by omega) 1 _).other (by omega) 2 _).other (by omega) 3 _).other (by omega) 4 _)
    have HBe : Hid (Below w.heap.size w we) := Lib.hid (by rw [← hwn]; have hSv : w.heap.size ≤ S := by { have := HSZ.out; omega }; exact (((((HBd.out.setCell (p := ⟨S, 0, none⟩) hSv _).setCell (p := ⟨S, 1, none⟩) hSv _).setCell (p := ⟨S, 2, none⟩) hSv _).setCell (p := ⟨S, 3, none⟩) hSv _).setCell (p := ⟨S, 4, none⟩) hSv _))
    have hze : S + 4 ≤ we.heap.size := by rw [← hwn]; simp only [World.size_setCell]; omega
    have HOe : Hid (OwnStrs (S + 4) we (.slice a8 n8_ c8) zs) := Lib.hid (by rw [← hwn]; exact (strs_low (strs_low (strs_low (strs_low (strs_low HOd.out (b := S) (by omega)) (b := S) (by omega)) (b := S) (by omega)) (b := S) (by omega)) (b := S) (by omega)))
    have HWE := Lib.hid hwn
    clear hwn
    go_upto_region 14 with fail
    rw [HWE.out]
    clear m0 m1 m2 m3 m4 f0 f1 f2 f3 f4
    have HEL : Hid (Calls Tryz.prog 71 #[pv a N c stop ⟨n10, b10, at10⟩] we fun e w' => (∃ m, e = .returned (.tuple #[.int .i64 m, pv a N c stop (stepS L stop pElse ⟨n10, b10, at10⟩).1]) ∧ (∀ y, (stepS L stop pElse ⟨n10, b10, at10⟩).2 = some y → m = y) ∧ (m = 0 ∨ m = 1 ∨ m = 2)) ∧ Below we.heap.size we w') := Lib.hid (zelse_any B we a N c L stop ⟨n10, b10, at10⟩ HV.out HLN.out (by have := HBX.out; have := HSZ.out; omega) (HL.out.below HBe.out HBX.out) HN10.out)
    have m0 := HPe.out.cell 0
    have m1 := HPe.out.cell 1
    have m2 := HPe.out.cell 2
    have m3 := HPe.out.cell 3
    have m4 := HPe.out.cell 4
    simp at m0 m1 m2 m3 m4
    go_wp2_with fail
    refine HEL.out.mono ?_
    clear HEL
    rintro e wq ⟨⟨em, rfl, he1, he2⟩, hb⟩
    have HEM := Lib.hid he2
    have HBq : Hid (Below w.heap.size w wq) := Lib.hid (HBe.out.trans (hb.mono HBe.out.size))
    have HPq := Lib.hid (HPe.out.ext hb)
    have HYq := Lib.hid (HYe.out.ext hb)
    have HRq := Lib.hid (HRe.out.ext hb)
    have HXq := Lib.hid (HXe.out.ext hb)
    have hzq : S + 4 ≤ wq.heap.size := Nat.le_trans hze hb.size
    have HOq := Lib.hid (OwnRecs.below strK HOe.out hb (by omega))
    clear hb m0 m1 m2 m3 m4 he2
    have hnk : (stepS L stop pElse ⟨n10, b10, at10⟩).1.n ≤ N := by rw [← HLN.out]; exact step_n (by rw [HLN.out]; exact HN10.out)
    obtain ⟨s11, hs11⟩ : ∃ s, (stepS L stop pElse ⟨n10, b10, at10⟩).1 = s := ⟨_, rfl⟩
    have HS11 := Lib.hid (And.intro hs11 he1)
    rw [hs11]
    rw [hs11] at hnk
    clear hs11 he1
    obtain ⟨n11, b11, at11⟩ := s11
    have HN11 : Hid (n11 ≤ N) := Lib.hid hnk
    clear hnk
    unfold pv pvC
    simp only
    have m0 := HPq.out.cell 0
    have m1 := HPq.out.cell 1
    have m2 := HPq.out.cell 2
    have m3 := HPq.out.cell 3
    have m4 := HPq.out.cell 4
    simp at m0 m1 m2 m3 m4
    have f0 := HPq.out.free 0
    have f1 := HPq.out.free 1
    have f2 := HPq.out.free 2
    have f3 := HPq.out.free 3
    have f4 := HPq.out.free 4
    have x0 := HXq.out.cell 0
    have x1 := HXq.out.cell 1
    have x2 := HXq.out.cell 2
    have x3 := HXq.out.cell 3
    have x4 := HXq.out.cell 4
    have x5 := HXq.out.cell 5
    have x6 := HXq.out.cell 6
    have x7 := HXq.out.cell 7
    have x8 := HXq.out.cell 8
    have x9 := HXq.out.cell 9
    have x10 := HXq.out.cell 10
    simp at x0 x1 x2 x3 x4 x5 x6 x7 x8 x9 x10
    have g0 := HXq.out.free 0
    have g1 := HXq.out.free 1
    have g2 := HXq.out.free 2
    have g3 := HXq.out.free 3
    have g4 := HXq.out.free 4
    have g5 := HXq.out.free 5
    have g6 := HXq.out.free 6
    have g7 := HXq.out.free 7
    have g8 := HXq.out.free 8
    have g9 := HXq.out.free 9
    have g10 := HXq.out.free 10
    obtain ⟨wz, hwn⟩ : ∃ W, ((((((wq.setCell ⟨S + 1 + 1 + 1, 10, none⟩ (.int .i64 em)).setCell ⟨S, 0, none⟩ (.slice a N c)).setCell ⟨S, 1, none⟩ (.int .i64 (n11 : Int))).setCell ⟨S, 2, none⟩ (.int .i64 stop)).setCell ⟨S, 3, none⟩ (.bool b11)).setCell ⟨S, 4, none⟩ (.int .i64 at11)) = W := ⟨_, rfl⟩
    have HPz : Hid (CellsN wz S #[.slice a N c, .int .i64 (n11 : Int), .int .i64 stop, .bool b11, .int .i64 at11]) := Lib.hid (by rw [← hwn]; have := (((((HPq.out.other (p := S + 1 + 1 + 1) (by omega) 10 (.int .i64 em)).set 0 (.slice a N c)).set 1 (.int .i64 (n11 : Int))).set 2 (.int .i64 stop)).set 3 (.bool b11)).set 4 (.int .i64 at11); simpa using this)
    have HXz : Hid (CellsN wz (S + 1 + 1 + 1) #[.string y1, .string y2, .string y3, .string y4, .int .i64 ze, .int .i64 zf, .int .i64 zg, .int .i64 zh, .slice a8 n8_ c8, .bool true, .int .i64 em]) := Lib.hid (by rw [← hwn]; have := HXq.out.set 10 (.int .i64 em); have h2 := (((((this.other (p := S) (by omega) 0 (.slice a N c)).other (p := S) (by omega) 1 (.int .i64 (n11 : Int))).other (p := S) (by omega) 2 (.int .i64 stop)).other (p := S) (by omega) 3 (.bool b11)).other (p := S) (by omega) 4 (.int .i64 at11)); simpa using h2)
    have HYz : Hid (CellsN wz (S + 1) #[.string ⟨#[]⟩, .string ⟨#[]⟩, .string ⟨#[]⟩, .string ⟨#[]⟩, .int .i64 0, .int .i64 0, .int .i64 0, .int .i64 0, .slice none 0 0, .bool false, .int .i64 0]) := Lib.hid (by rw [← hwn]; exact (((((HYq.out.other (by omega) _ _).other (by omega) 0 _).other (by omega) 1 _).other (by omega) 2 _).other (by omega) 3 _).other (by omega) 4 _)
    have HRz : Hid (CellsN wz (S + 1 + 1) #[.slice none 0 0, .int .i64 0, .int .i64 0, .bool false, .int .i64 0]) := Lib.hid (by rw [← hwn]; exact (((((HRq.out.other (by omega) _ _).other (by omega) 0 _).other (by omega) 1 _).other (by omega) 2 _).other (by omega) 3 _).other (by omega) 4 _)
    have HBz : Hid (Below w.heap.size w wz) := Lib.hid (by rw [← hwn]; have hSv : w.heap.size ≤ S := by { have := HSZ.out; omega }; have hSx : w.heap.size ≤ S + 1 + 1 + 1 := by { have := HSZ.out; omega }; exact ((((((HBq.out.setCell (p := ⟨S + 1 + 1 + 1, 10, none⟩) hSx _).setCell (p := ⟨S, 0, none⟩) hSv _).setCell (p := ⟨S, 1, none⟩) hSv _).setCell (p := ⟨S, 2, none⟩) hSv _).setCell (p := ⟨S, 3, none⟩) hSv _).setCell (p := ⟨S, 4, none⟩) hSv _))
    have hzz : S + 4 ≤ wz.heap.size := by rw [← hwn]; simp only [World.size_setCell]; omega
    have HOz : Hid (OwnStrs (S + 4) wz (.slice a8 n8_ c8) zs) := Lib.hid (by rw [← hwn]; exact (strs_low (strs_low (strs_low (strs_low (strs_low (strs_low HOq.out (b := S + 1 + 1 + 1) (by omega)) (b := S) (by omega)) (b := S) (by omega)) (b := S) (by omega)) (b := S) (by omega)) (b := S) (by omega)))
    have HWN := Lib.hid hwn
    clear hwn
    go_wp2
    rw [HWN.out]
    clear HWN m0 m1 m2 m3 m4 f0 f1 f2 f3 f4 x0 x1 x2 x3 x4 x5 x6 x7 x8 x9 x10 g0 g1 g2 g3 g4 g5 g6 g7 g8 g9 g10
    clear HBq HPq HYq HRq HXq hzq HOq
    have HCH := Lib.hid (order_chain HV.out (s0 := ⟨n, bad, at_⟩) (by rw [HLN.out]; exact HN.out) HS1.out HS2.out HS3.out HS4.out HS5.out HS6.out HS7.out HS8.out HS9.out (bk := true) (s10 := ⟨n10, b10, at10⟩) HS10.out HS11.out)
    have HXX : Hid (∀ W, Below w.heap.size w W → S + 4 ≤ W.heap.size → Calls Tryz.prog 72 #[pv a N c stop ⟨n11, b11, at11⟩, .int .i64 3, .string ⟨#[59]⟩] W fun e w' => e = .returned (pv a N c stop (expS L stop ⟨n11, b11, at11⟩ 3 sSemi)) ∧ Below W.heap.size W w') := Lib.hid (fun W hW hz => zexpect_any B W a N c L stop ⟨n11, b11, at11⟩ 3 ⟨#[59]⟩ HLN.out (by have := HBX.out; have := HSZ.out; omega) (HL.out.below hW HBX.out) HN11.out)
    obtain ⟨s5, hs5⟩ : ∃ s, expS L stop ⟨n11, b11, at11⟩ 3 sSemi = s := ⟨_, rfl⟩
    rw [hs5] at HXX HCH
    clear hs5
    obtain ⟨n12, b12, at12⟩ := s5
    unfold pv pvC at HXX
    simp only at HXX
    have HDR' : Hid (Below w.heap.size wz wz.drew) := Lib.hid (Below.refl _ _).drew
    have HOz2 : Hid (OwnStrs (S + 4) wz.drew (.slice a8 n8_ c8) zs) := Lib.hid (strs_draw HOz.out)
    obtain ⟨V, hV⟩ : ∃ V : List (Option Value), V = [some (.agg #[.string y1, .string y2, .string y3, .string y4, .int .i64 ze, .int .i64 zf, .int .i64 zg, .int .i64 zh, .slice a8 n8_ c8, .bool true, .int .i64 em]), some (.agg #[.slice a N c, .int .i64 (n11 : Int), .int .i64 stop, .bool b11, .int .i64 at11]), some (.agg #[.slice a N c, .int .i64 (n12 : Int), .int .i64 stop, .bool b12, .int .i64 at12]), none, none] := ⟨_, rfl⟩
    have HVV := Lib.hid hV
    clear hV
    refine wp_region_V [some 71, some 72, some 73, none, none] (fun L w' xs => ValsAt V L xs ∧ (Below w.heap.size w w' ∧ S + 4 ≤ w'.heap.size ∧ CellsN w' S #[.slice a N c, .int .i64 (n11 : Int), .int .i64 stop, .bool b11, .int .i64 at11] ∧ CellsN w' (S + 1 + 1 + 1) #[.string y1, .string y2, .string y3, .string y4, .int .i64 ze, .int .i64 zf, .int .i64 zg, .int .i64 zh, .slice a8 n8_ c8, .bool true, .int .i64 em] ∧ OwnStrs (S + 4) w' (.slice a8 n8_ c8) zs ∧ CellsN w' (S + 1) (if L 3 = true then #[.string y1, .string y2, .string y3, .string y4, .int .i64 ze, .int .i64 zf, .int .i64 zg, .int .i64 zh, .slice a8 n8_ c8, .bool true, .int .i64 em] else #[.string ⟨#[]⟩, .string ⟨#[]⟩, .string ⟨#[]⟩, .string ⟨#[]⟩, .int .i64 0, .int .i64 0, .int .i64 0, .int .i64 0, .slice none 0 0, .bool false, .int .i64 0]) ∧ CellsN w' (S + 1 + 1) (if L 4 = true then #[.slice a N c, .int .i64 (n12 : Int), .int .i64 stop, .bool b12, .int .i64 at12] else #[.slice none 0 0, .int .i64 0, .int .i64 0, .bool false, .int .i64 0]))) (by kernel_rfl) (by kernel_rfl) (by rfl) (by rfl) (by rfl) ?_ ?_ ?_
    focus
      exact fun xs => ⟨ValsAt.none _ _, HBz.out.trans HDR'.out, hzz, HPz.out, HXz.out, HOz2.out, HYz.out, HRz.out⟩
    focus
      refine ⟨?_, ?_, ?_, ?_, ?_, trivial⟩
      all_goals
        intro L a' w' xs hi hd hf hJ K hK
        obtain ⟨hv, hb, hz, hp, hx, ho, hy, hr⟩ := hJ
        have HF := Lib.hid hf
        have HVA := Lib.hid hv
        have HLI := Lib.hid hi
        clear hf hv hi
      focus
        clear hd
        obtain ⟨ρ, hρ⟩ : ∃ ρ, a'.eval = ρ := ⟨_, rfl⟩
        have hcst : ∀ v, ρ (.const v) = v := fun v => (congrFun hρ (.const v)).symm
        have l4 : ρ (.tmp 4) = .pointer (some ⟨S + 1 + 1 + 1, 0, none⟩) := (congrFun hρ (.tmp 4)).symm.trans (HF.out.lo 4 rfl)
        rw [if_pos (by simp [Region.wanted])]
        unfold Oper.wp
        rw [hρ]
        clear hρ
        have Hhb := Lib.hid hb
        have Hhp := Lib.hid hp
        have Hhx := Lib.hid hx
        have Hho := Lib.hid ho
        have Hhy := Lib.hid hy
        have Hhr := Lib.hid hr
        clear hb hp hx ho hy hr
        have c0 := Hhx.out.cell 0
        have c1 := Hhx.out.cell 1
        have c2 := Hhx.out.cell 2
        have c3 := Hhx.out.cell 3
        have c4 := Hhx.out.cell 4
        have c5 := Hhx.out.cell 5
        have c6 := Hhx.out.cell 6
        have c7 := Hhx.out.cell 7
        have c8 := Hhx.out.cell 8
        have c9 := Hhx.out.cell 9
        have c10 := Hhx.out.cell 10
        simp at c0 c1 c2 c3 c4 c5 c6 c7 c8 c9 c10
        go_simp
        exact hK.out _ _ ⟨HVA.out.set (i := 0) (by rw [HVV.out]; rfl), Hhb.out, hz, Hhp.out, Hhx.out, Hho.out, by simp only [upd_ne (L := L) (show (3 : Nat) ≠ 0 by decide)]; exact Hhy.out, by simp only [upd_ne (L := L) (show (4 : Nat) ≠ 0 by decide)]; exact Hhr.out⟩
      focus
        clear hd
        obtain ⟨ρ, hρ⟩ : ∃ ρ, a'.eval = ρ := ⟨_, rfl⟩
        have hcst : ∀ v, ρ (.const v) = v := fun v => (congrFun hρ (.const v)).symm
        have l1 : ρ (.tmp 1) = .pointer (some ⟨S, 0, none⟩) := (congrFun hρ (.tmp 1)).symm.trans (HF.out.lo 1 rfl)
        rw [if_pos (by simp [Region.wanted])]
        unfold Oper.wp
        rw [hρ]
        clear hρ
        have Hhb := Lib.hid hb
        have Hhp := Lib.hid hp
        have Hhx := Lib.hid hx
        have Hho := Lib.hid ho
        have Hhy := Lib.hid hy
        have Hhr := Lib.hid hr
        clear hb hp hx ho hy hr
        have c0 := Hhp.out.cell 0
        have c1 := Hhp.out.cell 1
        have c2 := Hhp.out.cell 2
        have c3 := Hhp.out.cell 3
        have c4 := Hhp.out.cell 4
        simp at c0 c1 c2 c3 c4
        go_simp
        exact hK.out _ _ ⟨HVA.out.set (i := 1) (by rw [HVV.out]; rfl), Hhb.out, hz, Hhp.out, Hhx.out, Hho.out, by simp only [upd_ne (L := L) (show (3 : Nat) ≠ 1 by decide)]; exact Hhy.out, by simp only [upd_ne (L := L) (show (4 : Nat) ≠ 1 by decide)]; exact Hhr.out⟩
      focus
        obtain ⟨d1, _⟩ := hd
        obtain ⟨ρ, hρ⟩ : ∃ ρ, a'.eval = ρ := ⟨_, rfl⟩
        have hcst : ∀ v, ρ (.const v) = v := fun v => (congrFun hρ (.const v)).symm
        have hfun : ∀ k, ρ (.func k) = .func (.func k) #[] #[] := fun k => (congrFun hρ (.func k)).symm
        have v1 : ρ (.tmp 72) = .agg #[.slice a N c, .int .i64 (n11 : Int), .int .i64 stop, .bool b11, .int .i64 at11] := (congrFun hρ (.tmp 72)).symm.trans ((HF.out.ev 1 rfl d1).trans (HVA.out 1 _ (by rw [HVV.out]; rfl) d1))
        rw [if_pos (by simp [Region.wanted])]
        unfold Oper.wp
        rw [hρ]
        clear hρ
        have Hhb := Lib.hid hb
        have Hhp := Lib.hid hp
        have Hhx := Lib.hid hx
        have Hho := Lib.hid ho
        have Hhy := Lib.hid hy
        have Hhr := Lib.hid hr
        clear hb hp hx ho hy hr
        go_simp
        go_at_call 72
        refine (HXX.out w' Hhb.out hz).mono ?_
        rintro e w5 ⟨rfl, hb5⟩
        have Hb5 := Lib.hid hb5
        clear hb5
        exact hK.out _ _ ⟨HVA.out.set (i := 2) (by rw [HVV.out]; rfl), Hhb.out.trans (Hb5.out.mono Hhb.out.size), Nat.le_trans hz Hb5.out.size, Hhp.out.ext Hb5.out, Hhx.out.ext Hb5.out, OwnRecs.below strK Hho.out Hb5.out (by omega), by simp only [upd_ne (L := L) (show (3 : Nat) ≠ 2 by decide)]; exact Hhy.out.ext Hb5.out, by simp only [upd_ne (L := L) (show (4 : Nat) ≠ 2 by decide)]; exact Hhr.out.ext Hb5.out⟩
      focus
        obtain ⟨d0, d2, _, _⟩ := hd
        obtain ⟨ρ, hρ⟩ : ∃ ρ, a'.eval = ρ := ⟨_, rfl⟩
        have hcst : ∀ v, ρ (.const v) = v := fun v => (congrFun hρ (.const v)).symm
        have l2 : ρ (.tmp 2) = .pointer (some ⟨S + 1, 0, none⟩) := (congrFun hρ (.tmp 2)).symm.trans (HF.out.lo 2 rfl)
        have v0 : ρ (.tmp 71) = .agg #[.string y1, .string y2, .string y3, .string y4, .int .i64 ze, .int .i64 zf, .int .i64 zg, .int .i64 zh, .slice a8 n8_ c8, .bool true, .int .i64 em] := (congrFun hρ (.tmp 71)).symm.trans ((HF.out.ev 0 rfl d0).trans (HVA.out 0 _ (by rw [HVV.out]; rfl) d0))
        rw [if_pos (by simp [Region.wanted])]
        unfold Oper.wp
        rw [hρ]
        clear hρ
        have Hhb := Lib.hid hb
        have Hhp := Lib.hid hp
        have Hhx := Lib.hid hx
        have Hho := Lib.hid ho
        have Hhy := Lib.hid hy
        have Hhr := Lib.hid hr
        clear hb hp hx ho hy hr
        have Hhy2 : Hid (CellsN w' (S + 1) #[.string ⟨#[]⟩, .string ⟨#[]⟩, .string ⟨#[]⟩, .string ⟨#[]⟩, .int .i64 0, .int .i64 0, .int .i64 0, .int .i64 0, .slice none 0 0, .bool false, .int .i64 0]) := Lib.hid (by have := Hhy.out; rw [HLI.out] at this; exact this)
        have q0 := Hhy2.out.cell 0
        have q1 := Hhy2.out.cell 1
        have q2 := Hhy2.out.cell 2
        have q3 := Hhy2.out.cell 3
        have q4 := Hhy2.out.cell 4
        have q5 := Hhy2.out.cell 5
        have q6 := Hhy2.out.cell 6
        have q7 := Hhy2.out.cell 7
        have q8 := Hhy2.out.cell 8
        have q9 := Hhy2.out.cell 9
        have q10 := Hhy2.out.cell 10
        simp at q0 q1 q2 q3 q4 q5 q6 q7 q8 q9 q10
        have fq0 := Hhy2.out.free 0
        have fq1 := Hhy2.out.free 1
        have fq2 := Hhy2.out.free 2
        have fq3 := Hhy2.out.free 3
        have fq4 := Hhy2.out.free 4
        have fq5 := Hhy2.out.free 5
        have fq6 := Hhy2.out.free 6
        have fq7 := Hhy2.out.free 7
        have fq8 := Hhy2.out.free 8
        have fq9 := Hhy2.out.free 9
        have fq10 := Hhy2.out.free 10
        go_simp
        exact hK.out _ (storeN w' (S + 1) 0 [.string y1, .string y2, .string y3, .string y4, .int .i64 ze, .int .i64 zf, .int .i64 zg, .int .i64 zh, .slice a8 n8_ c8, .bool true, .int .i64 em]) ⟨HVA.out.free (i := 3) (by rw [HVV.out]; rfl) undef, storeN_below (by have := HSZ.out; omega) _ 0 _ Hhb.out, by rw [storeN_size]; exact hz, storeN_other (by omega) _ 0 _ Hhp.out, storeN_other (by omega) _ 0 _ Hhx.out, storeN_own (by omega) _ 0 _ Hho.out, by rw [if_pos (upd_self _ _)]; exact storeN_set Hhy2.out _ rfl, by simp only [upd_ne (L := L) (show (4 : Nat) ≠ 3 by decide)]; exact storeN_other (by omega) _ 0 _ Hhr.out⟩
      focus
        obtain ⟨d2, d3, d0, d1, _, _, _⟩ := hd
        obtain ⟨ρ, hρ⟩ : ∃ ρ, a'.eval = ρ := ⟨_, rfl⟩
        have hcst : ∀ v, ρ (.const v) = v := fun v => (congrFun hρ (.const v)).symm
        have l3 : ρ (.tmp 3) = .pointer (some ⟨S + 1 + 1, 0, none⟩) := (congrFun hρ (.tmp 3)).symm.trans (HF.out.lo 3 rfl)
        have v2 : ρ (.tmp 73) = .agg #[.slice a N c, .int .i64 (n12 : Int), .int .i64 stop, .bool b12, .int .i64 at12] := (congrFun hρ (.tmp 73)).symm.trans ((HF.out.ev 2 rfl d2).trans (HVA.out 2 _ (by rw [HVV.out]; rfl) d2))
        rw [if_pos (by simp [Region.wanted])]
        unfold Oper.wp
        rw [hρ]
        clear hρ
        have Hhb := Lib.hid hb
        have Hhp := Lib.hid hp
        have Hhx := Lib.hid hx
        have Hho := Lib.hid ho
        have Hhy := Lib.hid hy
        have Hhr := Lib.hid hr
        clear hb hp hx ho hy hr
        have Hhr2 : Hid (CellsN w' (S + 1 + 1) #[.slice none 0 0, .int .i64 0, .int .i64 0, .bool false, .int .i64 0]) := Lib.hid (by have := Hhr.out; rw [HLI.out] at this; exact this)
        have r0 := Hhr2.out.cell 0
        have r1 := Hhr2.out.cell 1
        have r2 := Hhr2.out.cell 2
        have r3 := Hhr2.out.cell 3
        have r4 := Hhr2.out.cell 4
        simp at r0 r1 r2 r3 r4
        have fr0 := Hhr2.out.free 0
        have fr1 := Hhr2.out.free 1
        have fr2 := Hhr2.out.free 2
        have fr3 := Hhr2.out.free 3
        have fr4 := Hhr2.out.free 4
        go_simp
        exact hK.out _ (storeN w' (S + 1 + 1) 0 [.slice a N c, .int .i64 (n12 : Int), .int .i64 stop, .bool b12, .int .i64 at12]) ⟨HVA.out.free (i := 4) (by rw [HVV.out]; rfl) undef, storeN_below (by have := HSZ.out; omega) _ 0 _ Hhb.out, by rw [storeN_size]; exact hz, storeN_other (by omega) _ 0 _ Hhp.out, storeN_other (by omega) _ 0 _ Hhx.out, storeN_own (by omega) _ 0 _ Hho.out, by simp only [upd_ne (L := L) (show (3 : Nat) ≠ 4 by decide)]; exact storeN_other (by omega) _ 0 _ Hhy.out, by rw [if_pos (upd_self _ _)]; exact storeN_set Hhr2.out _ rfl⟩
    focus
      intro L w' xs hL hJ
      obtain ⟨hv, hb, hz, hp, hx, ho, hy, hr⟩ := hJ
      have e0 : xs 0 = .agg #[.string y1, .string y2, .string y3, .string y4, .int .i64 ze, .int .i64 zf, .int .i64 zg, .int .i64 zh, .slice a8 n8_ c8, .bool true, .int .i64 em] := hv 0 _ (by rw [HVV.out]; rfl) (hL 0 (by decide))
      have e1 : xs 1 = .agg #[.slice a N c, .int .i64 (n11 : Int), .int .i64 stop, .bool b11, .int .i64 at11] := hv 1 _ (by rw [HVV.out]; rfl) (hL 1 (by decide))
      have e2 : xs 2 = .agg #[.slice a N c, .int .i64 (n12 : Int), .int .i64 stop, .bool b12, .int .i64 at12] := hv 2 _ (by rw [HVV.out]; rfl) (hL 2 (by decide))
      simp only [putGo, Act.put, List.setIfInBounds_toArray, List.set_cons_zero, List.set_cons_succ, e0, e1, e2]
      clear hv e0 e1 e2
      rw [if_pos (hL 3 (by decide))] at hy
      rw [if_pos (hL 4 (by decide))] at hr
      have q0 := hy.cell 0
      have q1 := hy.cell 1
      have q2 := hy.cell 2
      have q3 := hy.cell 3
      have q4 := hy.cell 4
      have q5 := hy.cell 5
      have q6 := hy.cell 6
      have q7 := hy.cell 7
      have q8 := hy.cell 8
      have q9 := hy.cell 9
      have q10 := hy.cell 10
      simp at q0 q1 q2 q3 q4 q5 q6 q7 q8 q9 q10
      have r0 := hr.cell 0
      have r1 := hr.cell 1
      have r2 := hr.cell 2
      have r3 := hr.cell 3
      have r4 := hr.cell 4
      simp at r0 r1 r2 r3 r4
      have HBF := Lib.hid hb
      have HOF := Lib.hid ho
      clear hp hx hy hr hb ho
      go_wp2
      refine bodyPost_ret (v := .tuple #[.agg #[.string y1, .string y2, .string y3, .string y4, .int .i64 ze, .int .i64 zf, .int .i64 zg, .int .i64 zh, .slice a8 n8_ c8, .bool true, .int .i64 em], .agg #[.slice a N c, .int .i64 (n12 : Int), .int .i64 stop, .bool b12, .int .i64 at12]]) (by simp [results, Tryz.results46, go_sem, q0, q1, q2, q3, q4, q5, q6, q7, q8, q9, q10, r0, r1, r2, r3, r4]) rfl ⟨⟨.slice a8 n8_ c8, ⟨za, zb, zc, zd, ze, zf, zg, zh, zs, true, em⟩, ?_, strs_mono HOF.out (by have := HSZ.out; omega), ⟨HK1.out, HK2.out, HK3.out, HK4.out, HK5.out, HK6.out, HK7.out, HK9.out, ?_⟩, fun y hy => ?_⟩, HBF.out⟩
      · rw [HCH.out]
        unfold wishV wishC
        simp only [HYY1.out, HYY2.out, HYY3.out, HYY4.out]
        try rfl
      · show I64 em
        unfold I64
        rcases HEM.out with h | h | h <;> (rw [h]; decide)
      · rw [HCH.out] at hy
        simp only at hy
        split at hy
        · exact Option.some.inj hy
        · cases hy
end Go.Proofs.YtfnmidddgjlipaaGreatDoor

/-
  Layer 17: the walk of the specification's parser, seventh part: read (printed by tools/genz8.py).
-/
set_option linter.unusedVariables false
set_option linter.unusedSimpArgs false
namespace Go.Proofs.YtfnmidddgjlipaaGreatDoor
open Go.RowKit

def readZ (L : List Tok) (stop : Int) (s : PSt) (zs : List WishD) : Prop := match pRead L with
  | .error e => s.bad = true ∧ s.at_ = placeOf stop e
  | .ok ys => s.bad = false ∧ zs = ys
theorem readZ_err {L : List Tok} {stop : Int} {s : PSt} {zs : List WishD} {e : List Tok} (h : pRead L = .error e) (hb : s.bad = true) (ha : s.at_ = placeOf stop e) : readZ L stop s zs := by
  unfold readZ; rw [h]; exact ⟨hb, ha⟩
theorem readZ_ok {L : List Tok} {stop : Int} {s : PSt} {zs : List WishD} (h : pRead L = .ok zs) (hb : s.bad = false) : readZ L stop s zs := by
  unfold readZ; rw [h]; exact ⟨hb, rfl⟩
theorem deep_low {C b i : Nat} {w : World} {v u : Value} {xs : List WishD} (h : OwnWs C w v xs) (hb : b < C) : OwnWs C (w.setCell ⟨b, i, none⟩ u) v xs :=
  OwnDeep.kept wishSK h (grown_setCell w ⟨b, i, none⟩ u) (fun q e => .inl (by have e2 : b = q := Option.some.inj e; omega))
theorem deep_draw {C : Nat} {w : World} {v : Value} {xs : List WishD} (h : OwnWs C w v xs) : OwnWs C w.drew v xs := OwnDeep.below wishSK h ((Drew.refl w).drewN 1 |>.below _)
set_option maxHeartbeats 8000000 in
set_option maxRecDepth 100000 in
theorem zread_any (B : Nat) (w : World) (a : Option Addr) (N c : Nat) (L : List Tok) (stop : Int) (hv : ∀ t ∈ L, validB t = true) (hok : ∀ t ∈ L, okT t) (hNb : N ≤ 1000000) (hN : L.length = N) (hB : B ≤ w.heap.size) (hl : IsToks B w (.slice a N c) L) :
    Calls Tryz.prog 16 #[.agg #[.slice a N c, .int .i64 0, .int .i64 stop, .bool false, .int .i64 0]] w fun e w' => (∃ v zs s', e = .returned (.tuple #[v, pv a N c stop s']) ∧ OwnWs w.heap.size w' v zs ∧ readZ L stop s' zs) ∧ Below w.heap.size w w' := by
  have HLN := Lib.hid hN
  have HL := Lib.hid hl
  have HBX := Lib.hid hB
  obtain ⟨S, hS⟩ : ∃ S, w.heap.size = S := ⟨_, rfl⟩
  have HSZ := Lib.hid hS
  obtain ⟨a', c', he, hc1, hc2, hc3⟩ := hl.form
  injection he with he1 he2 he3
  subst he1
  subst he3
  rw [hN] at hc1 hc3
  clear hl hB hN he2
  have HV := Lib.hid hv
  have HOKT := Lib.hid hok
  clear hv hok
  obtain ⟨W0, hW0⟩ : ∃ W, (w.alloc (.cells #[.slice a N c, .int .i64 0, .int .i64 stop, .bool false, .int .i64 0] 40)).alloc (.cells #[.slice none 0 0, .int .i64 0, .int .i64 0, .bool false, .int .i64 0] 40) = W := ⟨_, rfl⟩
  have HB0 : Hid (Below w.heap.size w W0) := Lib.hid (by rw [← hW0]; exact (box_below' _ _).alloc (by simp) _)
  have HC0 : Hid (CellsN W0 S #[.slice a N c, .int .i64 0, .int .i64 stop, .bool false, .int .i64 0]) := Lib.hid (by rw [← hW0, ← hS]; exact (CellsN.new w _ _).alloc _)
  have HR0 : Hid (CellsN W0 (S + 1) #[.slice none 0 0, .int .i64 0, .int .i64 0, .bool false, .int .i64 0]) := Lib.hid (by rw [← hW0, ← hS]; have := CellsN.new (w.alloc (.cells #[.slice a N c, .int .i64 0, .int .i64 stop, .bool false, .int .i64 0] 40)) #[.slice none 0 0, .int .i64 0, .int .i64 0, .bool false, .int .i64 0] 40; rw [World.size_alloc] at this; exact this)
  have hz0 : S + 2 ≤ W0.heap.size := by rw [← hW0]; simp [hS]
  have HW0 := Lib.hid hW0
  clear hW0
  go_enter Tryz.func16, Tryz.ntmps16
  go_upto_region 1 with fail
  try rw [HW0.out]
  try rw [hS]
  clear hS
  obtain ⟨W1, hW1⟩ : ∃ W, W0.alloc (.cells #[] 34) = W := ⟨_, rfl⟩
  have HB1 : Hid (Below w.heap.size w W1) := Lib.hid (by rw [← hW1]; exact HB0.out.alloc HB0.out.size _)
  have HC1 : Hid (CellsN W1 S #[.slice a N c, .int .i64 0, .int .i64 stop, .bool false, .int .i64 0]) := Lib.hid (by rw [← hW1]; exact HC0.out.alloc _)
  have HR1 : Hid (CellsN W1 (S + 1) #[.slice none 0 0, .int .i64 0, .int .i64 0, .bool false, .int .i64 0]) := Lib.hid (by rw [← hW1]; exact HR0.out.alloc _)
  have HO1 : Hid (OwnWs (S + 2) W1 (.slice (some ⟨W0.heap.size, 0, none⟩) 0 0) []) := Lib.hid (by rw [← hW1]; exact ⟨[], World.ownsRow_made W0 #[] 0 hz0 (by simp) (by simp), rfl, by simp, fun j hj => by simp at hj⟩)
  have hz1 : S + 2 ≤ W1.heap.size := by rw [← hW1]; simp; omega
  have HW1 := Lib.hid hW1
  clear hW1
  go_wp2
  try rw [HW1.out]
  go_loopw [4] (fun lv wr => ∃ (zs : List WishD) (s1 : PSt), OwnWs (S + 2) wr lv zs ∧ CellsN wr S #[.slice a N c, .int .i64 (s1.n : Int), .int .i64 stop, .bool s1.bad, .int .i64 s1.at_] ∧ CellsN wr (S + 1) #[.slice none 0 0, .int .i64 0, .int .i64 0, .bool false, .int .i64 0] ∧ Below w.heap.size w wr ∧ s1.n ≤ N ∧ zs.length ≤ N + 1 ∧ (s1.bad = false → zs.length ≤ s1.n) ∧ (s1.bad = false → pRead L = match pRead (L.drop s1.n) with
      | .error e => .error e
      | .ok ys => .ok (zs ++ ys)) ∧ (s1.bad = true → ∃ e, pRead L = .error e ∧ s1.at_ = placeOf stop e) ∧ S + 2 ≤ wr.heap.size) (fun lv wr => match wr.cell? ⟨S, 1, none⟩, wr.cell? ⟨S, 3, none⟩ with | some (.int _ m), some (.bool b) => (if b then 0 else N + 1 - m.toNat) | _, _ => 0)
  case atStart => exact ⟨[], ⟨0, false, 0⟩, HO1.out, HC1.out, HR1.out, HB1.out, by simp, by simp, fun _ => by simp, fun _ => by simp only [List.drop_zero, List.nil_append]; cases pRead L <;> rfl, (fun h => by cases h), hz1⟩
  case round =>
    obtain ⟨zs, s1, ho, hcS, hcR, hbr, hs1, hzN, hzl, hgood, hbad, hzr⟩ := hrel
    obtain ⟨wq, rfl⟩ : ∃ W, W = wr := ⟨_, rfl⟩
    obtain ⟨n, bad, at_⟩ := s1
    simp only at hcS hs1 hzl hgood hbad
    have HOr := Lib.hid ho
    have HCr := Lib.hid hcS
    have HRr := Lib.hid hcR
    have HBr := Lib.hid hbr
    have HN : Hid (n ≤ N) := Lib.hid hs1
    have HGOOD := Lib.hid hgood
    have HBAD := Lib.hid hbad
    have HZL := Lib.hid hzl
    obtain ⟨avr, nvr, cvr, rfl⟩ := ho.form'
    clear ho hcS hcR hbr hgood hbad hzl
    have m0 := HCr.out.cell 0
    have m1 := HCr.out.cell 1
    have m2 := HCr.out.cell 2
    have m3 := HCr.out.cell 3
    have m4 := HCr.out.cell 4
    simp at m0 m1 m2 m3 m4
    cases hb : bad with
    | true =>
      subst hb
      obtain ⟨e0, he0, hat⟩ := HBAD.out rfl
      have HE0 := Lib.hid he0
      have HAT := Lib.hid hat
      clear he0 hat
      go_wp2
      go_still_tail 3, (by kernel_rfl)
      change wpList _ _ _ _ _ wq.drew
      clear m0 m1 m2 m3 m4
      have r0 := HRr.out.cell 0
      have r1 := HRr.out.cell 1
      have r2 := HRr.out.cell 2
      have r3 := HRr.out.cell 3
      have r4 := HRr.out.cell 4
      simp at r0 r1 r2 r3 r4
      have g0 := HRr.out.free 0
      have g1 := HRr.out.free 1
      have g2 := HRr.out.free 2
      have g3 := HRr.out.free 3
      have g4 := HRr.out.free 4
      go_wp2
      refine bodyPost_ret (v := .tuple #[.slice avr nvr cvr, pv0 a N c stop (n) true at_]) (by simp [results, Tryz.results16, go_sem, r0, r1, r2, r3, r4]) rfl ⟨⟨_, zs, ⟨n, true, at_⟩, rfl, ?_, readZ_err HE0.out rfl HAT.out⟩, ?_⟩
      · exact OwnDeep.mono (deep_draw (deep_low (deep_low (deep_low (deep_low (deep_low HOr.out (b := S + 1) (by omega)) (b := S + 1) (by omega)) (b := S + 1) (by omega)) (b := S + 1) (by omega)) (b := S + 1) (by omega))) (by have := HSZ.out; omega)
      have hSw : w.heap.size ≤ S + 1 := by have := HSZ.out; omega
      exact below_drewZ (((((HBr.out.setCell (p := ⟨S + 1, 0, none⟩) hSw _).setCell (p := ⟨S + 1, 1, none⟩) hSw _).setCell (p := ⟨S + 1, 2, none⟩) hSw _).setCell (p := ⟨S + 1, 3, none⟩) hSw _).setCell (p := ⟨S + 1, 4, none⟩) hSw _)
    | false =>
      subst hb
      by_cases hlt : n < N
      rotate_left
      · have hlt' : ¬ (n : Int) < (N : Int) := by omega
        have HE0 : Hid (pRead L = .ok zs) := Lib.hid (by rw [HGOOD.out (by simp), List.drop_eq_nil_of_le (by rw [HLN.out]; omega), read_nil]; simp)
        go_wp2
        go_still_tail 3, (by kernel_rfl)
        change wpList _ _ _ _ _ wq.drew
        clear m0 m1 m2 m3 m4
        have r0 := HRr.out.cell 0
        have r1 := HRr.out.cell 1
        have r2 := HRr.out.cell 2
        have r3 := HRr.out.cell 3
        have r4 := HRr.out.cell 4
        simp at r0 r1 r2 r3 r4
        have g0 := HRr.out.free 0
        have g1 := HRr.out.free 1
        have g2 := HRr.out.free 2
        have g3 := HRr.out.free 3
        have g4 := HRr.out.free 4
        go_wp2
        refine bodyPost_ret (v := .tuple #[.slice avr nvr cvr, pv0 a N c stop (n) false at_]) (by simp [results, Tryz.results16, go_sem, r0, r1, r2, r3, r4]) rfl ⟨⟨_, zs, ⟨n, false, at_⟩, rfl, ?_, readZ_ok HE0.out rfl⟩, ?_⟩
        · exact OwnDeep.mono (deep_draw (deep_low (deep_low (deep_low (deep_low (deep_low HOr.out (b := S + 1) (by omega)) (b := S + 1) (by omega)) (b := S + 1) (by omega)) (b := S + 1) (by omega)) (b := S + 1) (by omega))) (by have := HSZ.out; omega)
        have hSw : w.heap.size ≤ S + 1 := by have := HSZ.out; omega
        exact below_drewZ (((((HBr.out.setCell (p := ⟨S + 1, 0, none⟩) hSw _).setCell (p := ⟨S + 1, 1, none⟩) hSw _).setCell (p := ⟨S + 1, 2, none⟩) hSw _).setCell (p := ⟨S + 1, 3, none⟩) hSw _).setCell (p := ⟨S + 1, 4, none⟩) hSw _)
      have HST := Lib.hid (read_stepZ (stop := stop) HV.out (s := ⟨n, false, at_⟩) rfl (by rw [HLN.out]; exact hlt))
      have HCL := Lib.hid (zorder_any B wq a N c L stop ⟨n, false, at_⟩ HV.out HOKT.out (by omega) HLN.out (by have := HBX.out; have := HSZ.out; omega) (HL.out.below HBr.out HBX.out) HN.out)
      go_wp2_with fail
      refine HCL.out.mono ?_
      clear HCL
      rintro e w1 ⟨⟨va, x, rfl, hox, hokx, hxx⟩, hb⟩
      have HBa : Hid (Below w.heap.size w w1) := Lib.hid (HBr.out.trans (hb.mono HBr.out.size))
      have HCa := Lib.hid (HCr.out.ext hb)
      have HRa := Lib.hid (HRr.out.ext hb)
      have HOa := Lib.hid (OwnDeep.below wishSK HOr.out hb)
      have HQO : Hid (∀ q, (Value.slice avr nvr cvr).ownBlock = some q → S + 2 ≤ q ∧ q < wq.heap.size) := Lib.hid (fun q hq => HOr.out.lt q hq)
      have hza : wq.heap.size ≤ w1.heap.size := hb.size
      have HOX := Lib.hid hox
      have HOKX := Lib.hid hokx
      have HXX := Lib.hid hxx
      have hn2 : (stepS L stop pOrder ⟨n, false, at_⟩).1.n ≤ N := by rw [← HLN.out]; exact step_n (by rw [HLN.out]; exact HN.out)
      clear hb m0 m1 m2 m3 m4 hox hokx hxx
      obtain ⟨s2, hs2⟩ : ∃ s, stepS L stop pOrder ⟨n, false, at_⟩ = s := ⟨_, rfl⟩
      rw [hs2] at HST HXX hn2 ⊢
      clear hs2
      obtain ⟨⟨n2, b2, at2⟩, o2⟩ := s2
      have HN2 : Hid (n2 ≤ N) := Lib.hid hn2
      clear hn2
      obtain ⟨y1, hy1⟩ : ∃ y : ByteArray, strV x.name = .string y := ⟨_, rfl⟩
      obtain ⟨y2, hy2⟩ : ∃ y : ByteArray, strV x.frm = .string y := ⟨_, rfl⟩
      obtain ⟨y3, hy3⟩ : ∃ y : ByteArray, strV x.to = .string y := ⟨_, rfl⟩
      obtain ⟨y4, hy4⟩ : ∃ y : ByteArray, strV x.cls = .string y := ⟨_, rfl⟩
      have HXC : Hid ((wishC va x).toArray = #[.string y1, .string y2, .string y3, .string y4, .int .i64 x.after, .int .i64 x.by_, .int .i64 x.crowd, .int .i64 x.pay, va, .bool x.back, .int .i64 x.els]) := Lib.hid (by unfold wishC; rw [hy1, hy2, hy3, hy4])
      unfold wishV
      rw [HXC.out]
      unfold pv pvC
      simp only
      obtain ⟨avx, nvx, cvx, hva⟩ := HOX.out.form'
      subst hva
      obtain ⟨wA, hwA⟩ : ∃ W, (w1.alloc (.cells #[.string y1, .string y2, .string y3, .string y4, .int .i64 x.after, .int .i64 x.by_, .int .i64 x.crowd, .int .i64 x.pay, .slice avx nvx cvx, .bool x.back, .int .i64 x.els] 34)).alloc (.cells #[.slice a N c, .int .i64 (n2 : Int), .int .i64 stop, .bool b2, .int .i64 at2] 40) = W := ⟨_, rfl⟩
      have hbA : Below w1.heap.size w1 wA := by rw [← hwA]; exact (box_below' _ _).alloc (by simp) _
      have HBA : Hid (Below w.heap.size w wA) := Lib.hid (HBa.out.trans (hbA.mono HBa.out.size))
      have HCA := Lib.hid (HCa.out.ext hbA)
      have HRA := Lib.hid (HRa.out.ext hbA)
      have HOA := Lib.hid (OwnDeep.below wishSK HOa.out hbA)
      have HXA : Hid (CellsN wA w1.heap.size #[.string y1, .string y2, .string y3, .string y4, .int .i64 x.after, .int .i64 x.by_, .int .i64 x.crowd, .int .i64 x.pay, .slice avx nvx cvx, .bool x.back, .int .i64 x.els]) := Lib.hid (by rw [← hwA]; exact (CellsN.new _ _ _).alloc _)
      have HPA : Hid (CellsN wA (w1.heap.size + 1) #[.slice a N c, .int .i64 (n2 : Int), .int .i64 stop, .bool b2, .int .i64 at2]) := Lib.hid (by rw [← hwA]; have := CellsN.new (w1.alloc (.cells #[.string y1, .string y2, .string y3, .string y4, .int .i64 x.after, .int .i64 x.by_, .int .i64 x.crowd, .int .i64 x.pay, .slice avx nvx cvx, .bool x.back, .int .i64 x.els] 34)) #[.slice a N c, .int .i64 (n2 : Int), .int .i64 stop, .bool b2, .int .i64 at2] 40; rw [World.size_alloc] at this; exact this)
      have HOXA := Lib.hid (OwnRecs.below strK HOX.out hbA hza)
      have hzA : w1.heap.size + 2 ≤ wA.heap.size := by rw [← hwA]; simp
      have HWA := Lib.hid hwA
      have HYs := Lib.hid (And.intro hy1 (And.intro hy2 (And.intro hy3 hy4)))
      clear hwA hbA hy1 hy2 hy3 hy4
      go_upto_region 4 with fail
      rw [HWA.out]
      obtain ⟨G1, hG1⟩ : ∃ g, w1.heap.size = g := ⟨_, rfl⟩
      have HG1 := Lib.hid hG1
      rw [hG1] at HXA HPA hzA hza ⊢
      clear hG1
      have HSRC : Hid (SrcDeep 11 wishRS default (S + 2) (Value.slice avr nvr cvr).ownBlock (wA.alloc (.cells #[.string y1, .string y2, .string y3, .string y4, .int .i64 x.after, .int .i64 x.by_, .int .i64 x.crowd, .int .i64 x.pay, .slice avx nvx cvx, .bool x.back, .int .i64 x.els] 34)) (.slice (some ⟨wA.heap.size, 0, none⟩) 1 1) [x]) := Lib.hid (by
        have := src_wish (w := wA) (va := .slice avx nvx cvx) (o := x) (C := S + 2) (D := wq.heap.size) (g := (Value.slice avr nvr cvr).ownBlock) (t := 34) HOXA.out (by omega) HOKX.out hzr (fun q hq e => by have h1 := (HQO.out q hq).2; have h2 := (HOXA.out.lt q e).1; omega)
        rw [HXC.out] at this
        exact this)
      obtain ⟨vi, wi, hrun, ho, hg, hat⟩ := run_append_deep wishSK (by decide) wish_inf Tryz.underlying23 rfl (by decide) (by decide) (oty := 23) (C := S + 2) (v := .slice avr nvr cvr) (vx := .slice (some ⟨wA.heap.size, 0, none⟩) 1 1) (xs := zs) (ys := [x]) (OwnDeep.below wishSK HOA.out (box_below' wA (.cells #[.string y1, .string y2, .string y3, .string y4, .int .i64 x.after, .int .i64 x.by_, .int .i64 x.crowd, .int .i64 x.pay, .slice avx nvx cvx, .bool x.back, .int .i64 x.els] 34))) HSRC.out (by simp; omega) (by simp; omega)
      have HRUN := Lib.hid hrun
      have HOi := Lib.hid ho
      have HGi := Lib.hid hg
      obtain ⟨avi, nvi, cvi, rfl⟩ := ho.form'
      clear hrun ho hg hat
      have HBi : Hid (Below w.heap.size w wi) := Lib.hid ((HBA.out.alloc HBA.out.size _).grown HGi.out (by simp; have := HSZ.out; omega) (fun q hq => by have := (HQO.out q hq).1; have := HSZ.out; omega))
      have HCi : Hid (CellsN wi S #[.slice a N c, .int .i64 (n : Int), .int .i64 stop, .bool false, .int .i64 at_]) := Lib.hid ((HCA.out.alloc _).grown HGi.out (fun e => by have := (HQO.out S e.symm).1; omega))
      have HRi : Hid (CellsN wi (S + 1) #[.slice none 0 0, .int .i64 0, .int .i64 0, .bool false, .int .i64 0]) := Lib.hid ((HRA.out.alloc _).grown HGi.out (fun e => by have := (HQO.out (S + 1) e.symm).1; omega))
      have HPi : Hid (CellsN wi (G1 + 1) #[.slice a N c, .int .i64 (n2 : Int), .int .i64 stop, .bool b2, .int .i64 at2]) := Lib.hid ((HPA.out.alloc _).grown HGi.out (fun e => by have := (HQO.out _ e.symm).2; omega))
      have hzi : S + 2 ≤ wi.heap.size := by have := HGi.out.size; simp at this; omega
      have x0 := HXA.out.cell 0
      have x1 := HXA.out.cell 1
      have x2 := HXA.out.cell 2
      have x3 := HXA.out.cell 3
      have x4 := HXA.out.cell 4
      have x5 := HXA.out.cell 5
      have x6 := HXA.out.cell 6
      have x7 := HXA.out.cell 7
      have x8 := HXA.out.cell 8
      have x9 := HXA.out.cell 9
      have x10 := HXA.out.cell 10
      simp at x0 x1 x2 x3 x4 x5 x6 x7 x8 x9 x10
      go_upto_region 5 with (at_builtin; refine wpList_yes' rfl (fun K hK => wp_of_append (s := .tmp 24) (x := .tmp 26) _ rfl rfl rfl HRUN.out (hK _ _ ?_)))
      clear x0 x1 x2 x3 x4 x5 x6 x7 x8 x9 x10
      have m0 := HCi.out.cell 0
      have m1 := HCi.out.cell 1
      have m2 := HCi.out.cell 2
      have m3 := HCi.out.cell 3
      have m4 := HCi.out.cell 4
      simp at m0 m1 m2 m3 m4
      have r0 := HPi.out.cell 0
      have r1 := HPi.out.cell 1
      have r2 := HPi.out.cell 2
      have r3 := HPi.out.cell 3
      have r4 := HPi.out.cell 4
      simp at r0 r1 r2 r3 r4
      have f0 := HCi.out.free 0
      have f1 := HCi.out.free 1
      have f2 := HCi.out.free 2
      have f3 := HCi.out.free 3
      have f4 := HCi.out.free 4
      have hSG : ¬ S = G1 + 1 := by omega
      have hSG2 : ¬ G1 + 1 = S := by omega
      obtain ⟨wj, hwj⟩ : ∃ W, (((((wi.setCell ⟨S, 0, none⟩ (.slice a N c)).setCell ⟨S, 1, none⟩ (.int .i64 (n2 : Int))).setCell ⟨S, 2, none⟩ (.int .i64 stop)).setCell ⟨S, 3, none⟩ (.bool b2)).setCell ⟨S, 4, none⟩ (.int .i64 at2)) = W := ⟨_, rfl⟩
      have HCj : Hid (CellsN wj S #[.slice a N c, .int .i64 (n2 : Int), .int .i64 stop, .bool b2, .int .i64 at2]) := Lib.hid (by rw [← hwj]; have := ((((HCi.out.set 0 (.slice a N c)).set 1 (.int .i64 (n2 : Int))).set 2 (.int .i64 stop)).set 3 (.bool b2)).set 4 (.int .i64 at2); simpa using this)
      have HRj : Hid (CellsN wj (S + 1) #[.slice none 0 0, .int .i64 0, .int .i64 0, .bool false, .int .i64 0]) := Lib.hid (by rw [← hwj]; exact ((((HRi.out.other (by omega) 0 _).other (by omega) 1 _).other (by omega) 2 _).other (by omega) 3 _).other (by omega) 4 _)
      have HBj : Hid (Below w.heap.size w wj) := Lib.hid (by rw [← hwj]; have hSv : w.heap.size ≤ S := by { have := HSZ.out; omega }; exact (((((HBi.out.setCell (p := ⟨S, 0, none⟩) hSv _).setCell (p := ⟨S, 1, none⟩) hSv _).setCell (p := ⟨S, 2, none⟩) hSv _).setCell (p := ⟨S, 3, none⟩) hSv _).setCell (p := ⟨S, 4, none⟩) hSv _))
      have HOj : Hid (OwnWs (S + 2) wj (.slice avi nvi cvi) (zs ++ [x])) := Lib.hid (by rw [← hwj]; exact (deep_low (deep_low (deep_low (deep_low (deep_low HOi.out (b := S) (by omega)) (b := S) (by omega)) (b := S) (by omega)) (b := S) (by omega)) (b := S) (by omega)))
      have hzj : S + 2 ≤ wj.heap.size := by rw [← hwj]; simp only [World.size_setCell]; exact hzi
      have HWj := Lib.hid hwj
      clear hwj
      go_wp2
      rw [HWj.out]
      clear m0 m1 m2 m3 m4 r0 r1 r2 r3 r4 f0 f1 f2 f3 f4
      have e1 := HCj.out.cell 1
      have e3 := HCj.out.cell 3
      have d1 := HCr.out.cell 1
      have d3 := HCr.out.cell 3
      simp at e1 e3 d1 d3
      cases o2 with
      | none =>
        obtain ⟨hb2, e0, he0, hat0⟩ := HST.out
        have hb2' : b2 = true := hb2
        subst hb2'
        have hat0' : at2 = placeOf stop e0 := hat0
        have HE : Hid (pRead L = .error e0) := Lib.hid (by
          have he0' : pRead (L.drop n) = .error e0 := he0
          rw [HGOOD.out (by simp), he0'])
        go_roundw
        case rel => exact ⟨zs ++ [x], ⟨n2, true, at2⟩, HOj.out, HCj.out, HRj.out, HBj.out, HN2.out, by have := HZL.out (by simp); simp; omega, (fun h => by cases h), (fun h => by cases h), (fun _ => ⟨e0, HE.out, hat0'⟩), hzj⟩
        case measure => simp only [e1, e3, d1, d3]; simp; omega
      | some x2 =>
        obtain ⟨hr, hb2, hnn⟩ := HST.out
        have hb2' : b2 = false := hb2
        subst hb2'
        have hnn' : n < n2 := hnn
        have hxe : x = x2 := HXX.out x2 rfl
        have HE : Hid (pRead L = match pRead (L.drop n2) with
          | .error e => .error e
          | .ok ys => .ok ((zs ++ [x]) ++ ys)) := Lib.hid (by
          have hr' : pRead (L.drop n) = (match pRead (L.drop n2) with
            | .error e => .error e
            | .ok ys => .ok (x2 :: ys)) := hr
          rw [HGOOD.out (by simp), hr', ← hxe]
          cases pRead (L.drop n2) with
          | error e => rfl
          | ok ys => simp)
        go_roundw
        case rel => exact ⟨zs ++ [x], ⟨n2, false, at2⟩, HOj.out, HCj.out, HRj.out, HBj.out, HN2.out, by have := HZL.out (by simp); have := HN2.out; simp; omega, (fun _ => by have := HZL.out (by simp); simp; omega), (fun _ => HE.out), (fun h => by cases h), hzj⟩
        case measure => simp only [e1, e3, d1, d3]; simp; have := HN2.out; omega
end Go.Proofs.YtfnmidddgjlipaaGreatDoor
