/-
  Layer 17 (grammar), plain: the grammar as a parser of tokens, the tokens of orders. No program in sight.
-/
import Derived.Test.YtfnmidddgjlipaaDoorLx1
import Derived.Test.YtfnmidddgjlipaaDoorSo0
set_option linter.unusedVariables false
set_option linter.unusedSimpArgs false
namespace Go.Proofs.YtfnmidddgjlipaaDoor

def wLetter : Str := [108, 101, 116, 116, 101, 114]
def wFrom : Str := [102, 114, 111, 109]
def wTo : Str := [116, 111]
def wClass : Str := [99, 108, 97, 115, 115]
def wAfter : Str := [97, 102, 116, 101, 114]
def wBy : Str := [98, 121]
def wCrowd : Str := [99, 114, 111, 119, 100]
def wAgainst : Str := [97, 103, 97, 105, 110, 115, 116]
def wPay : Str := [112, 97, 121]
def wBack : Str := [98, 97, 99, 107]
def wElse : Str := [101, 108, 115, 101]
def wHold : Str := [104, 111, 108, 100]
def wForward : Str := [102, 111, 114, 119, 97, 114, 100]
def sComma : Str := [44]
def sSemi : Str := [59]
def wordsL : List Str := [wLetter, wFrom, wTo, wClass, wAfter, wBy, wCrowd, wAgainst, wPay, wBack, wElse, wHold, wForward]
def resB (s : Str) : Bool := wordsL.contains s

/-- what a part of the parser answers: an error with the tokens from the wrong one on, or a value and the tokens that are left -/
abbrev PR (α : Type) := Except (List Tok) (α × List Tok)
def isT (t : Tok) (s : Str) : Bool := t.kind != 2 && t.text == s
def pTake (s : Str) : List Tok → Option (List Tok)
  | [] => none
  | t :: r => if isT t s then some r else none
def pWant (s : Str) (l : List Tok) : PR Unit := match pTake s l with
  | some r => .ok ((), r)
  | none => .error l
def okName (t : Tok) : Bool := t.kind == 1 && !resB t.text
def okNum (m : Int) (t : Tok) : Bool := t.kind == 2 && decide (t.n ≤ m)
def pName : List Tok → PR Str
  | [] => .error []
  | t :: r => if okName t then .ok (t.text, r) else .error (t :: r)
def pNum (m : Int) : List Tok → PR Int
  | [] => .error []
  | t :: r => if okNum m t then .ok (t.n, r) else .error (t :: r)
def pBind {α β : Type} (p : List Tok → PR α) (q : α → List Tok → PR β) (l : List Tok) : PR β := match p l with
  | .error e => .error e
  | .ok (x, r) => q x r
def pPure {α : Type} (x : α) (l : List Tok) : PR α := .ok (x, l)
/-- is the word next? then one way, else the other -/
def pIf {α : Type} (s : Str) (p q : List Tok → PR α) (l : List Tok) : PR α := match pTake s l with
  | some r => p r
  | none => q l
def pWN (s : Str) : List Tok → PR Str := pBind (pWant s) fun _ => pName
def pWM (s : Str) (m : Int) : List Tok → PR Int := pBind (pWant s) fun _ => pNum m
def pMore : Nat → List Str → List Tok → PR (List Str)
  | 0, acc, l => .ok (acc, l)
  | f + 1, acc, l => match pTake sComma l with
    | none => .ok (acc, l)
    | some r => match pName r with
      | .error e => .error e
      | .ok (s, r') => pMore f (acc ++ [s]) r'
def pAgainst (l : List Tok) : PR (List Str) := match pTake wAgainst l with
  | none => .ok ([], l)
  | some r => match pName r with
    | .error e => .error e
    | .ok (s, r') => pMore r'.length [s] r'
def pBack : List Tok → PR Bool := pIf wBack (pPure true) (pPure false)
def pElse : List Tok → PR Int := pIf wElse (pIf wHold (pPure 1) (pBind (pWant wForward) fun _ => pPure 2)) (pPure 0)
def clockM : Int := 2097151
def crowdM : Int := 64
def payM : Int := 1099511627776
/-- an order up to its last sign -/
def pBody : List Tok → PR WishD :=
  pBind (pWN wLetter) fun a => pBind (pWN wFrom) fun b => pBind (pWN wTo) fun c => pBind (pWN wClass) fun d =>
  pBind (pWM wAfter clockM) fun i => pBind (pWM wBy clockM) fun j => pBind (pWM wCrowd crowdM) fun k =>
  pBind pAgainst fun ag => pBind (pWM wPay payM) fun p => pBind pBack fun bk => pBind pElse fun el =>
  pPure ⟨a, b, c, d, i, j, k, p, ag, bk, el⟩
def pOrder : List Tok → PR WishD := pBind pBody fun x => pBind (pWant sSemi) fun _ => pPure x
/-- the orders of tokens; an error: the tokens from the wrong one on -/
def pReadF : Nat → List Tok → Except (List Tok) (List WishD)
  | _, [] => .ok []
  | 0, t :: r => .ok []
  | f + 1, t :: r => match pOrder (t :: r) with
    | .error e => .error e
    | .ok (x, r') => match pReadF f r' with
      | .error e => .error e
      | .ok xs => .ok (x :: xs)
def pRead (l : List Tok) : Except (List Tok) (List WishD) := pReadF l.length l
def placeOf (stop : Int) : List Tok → Int
  | [] => stop
  | t :: _ => t.pos

/-! ### the tokens of orders -/
def nmT (s : Str) : Tok := ⟨1, s, 0, 0⟩
def sgT (s : Str) : Tok := ⟨3, s, 0, 0⟩
def nuT (n : Int) : Tok := ⟨2, [], n, 0⟩
def agT : List Str → List Tok
  | [] => []
  | s :: r => nmT wAgainst :: nmT s :: r.flatMap (fun x => [sgT sComma, nmT x])
def elT (e : Int) : List Tok := if e = 1 then [nmT wElse, nmT wHold] else if e = 2 then [nmT wElse, nmT wForward] else []
def ordT (x : WishD) : List Tok :=
  [nmT wLetter, nmT x.name, nmT wFrom, nmT x.frm, nmT wTo, nmT x.to, nmT wClass, nmT x.cls, nmT wAfter, nuT x.after, nmT wBy, nuT x.by_, nmT wCrowd, nuT x.crowd] ++
  agT x.against ++ [nmT wPay, nuT x.pay] ++ (if x.back then [nmT wBack] else []) ++ elT x.els ++ [sgT sSemi]
def ordsT (l : List WishD) : List Tok := l.flatMap ordT

/-! ### what is left is an end of what was given -/
/-- a part of a parser leaves an end of its tokens -/
def Ends {α : Type} (p : List Tok → PR α) : Prop := ∀ l, match p l with
  | .error e => e <:+ l
  | .ok (_, r) => r <:+ l
theorem take_cons (s : Str) (t : Tok) (r : List Tok) : pTake s (t :: r) = if isT t s then some r else none := rfl
theorem name_cons (t : Tok) (r : List Tok) : pName (t :: r) = if okName t then .ok (t.text, r) else .error (t :: r) := rfl
theorem num_cons (m : Int) (t : Tok) (r : List Tok) : pNum m (t :: r) = if okNum m t then .ok (t.n, r) else .error (t :: r) := rfl
theorem take_end {s : Str} {l r : List Tok} (h : pTake s l = some r) : ∃ t, l = t :: r ∧ isT t s = true := by
  cases l with
  | nil => cases h
  | cons t u =>
    rw [take_cons] at h
    split at h
    · rename_i hc; injection h with h; subst h; exact ⟨t, rfl, hc⟩
    · cases h
theorem ends_want (s : Str) : Ends (pWant s) := fun l => by
  unfold pWant
  cases h : pTake s l with
  | none => exact List.suffix_refl _
  | some r => obtain ⟨t, rfl, _⟩ := take_end h; exact List.suffix_cons _ _
theorem ends_name : Ends pName := fun l => by
  cases l with
  | nil => exact List.suffix_refl _
  | cons t r =>
    rw [name_cons]
    by_cases h : okName t = true
    · rw [if_pos h]; exact List.suffix_cons _ _
    · rw [if_neg h]; exact List.suffix_refl _
theorem ends_num (m : Int) : Ends (pNum m) := fun l => by
  cases l with
  | nil => exact List.suffix_refl _
  | cons t r =>
    rw [num_cons]
    by_cases h : okNum m t = true
    · rw [if_pos h]; exact List.suffix_cons _ _
    · rw [if_neg h]; exact List.suffix_refl _
theorem ends_pure {α : Type} (x : α) : Ends (pPure x) := fun l => List.suffix_refl _
theorem ends_bind {α β : Type} {p : List Tok → PR α} {q : α → List Tok → PR β} (hp : Ends p) (hq : ∀ x, Ends (q x)) : Ends (pBind p q) := fun l => by
  unfold pBind
  have h := hp l
  cases e : p l with
  | error s => rw [e] at h; exact h
  | ok v =>
    obtain ⟨x, r⟩ := v
    rw [e] at h
    have h2 := hq x r
    cases e2 : q x r with
    | error s => simp only [e2] at h2 ⊢; exact h2.trans h
    | ok v => obtain ⟨y, r2⟩ := v; simp only [e2] at h2 ⊢; exact h2.trans h
theorem ends_if {α : Type} {s : Str} {p q : List Tok → PR α} (hp : Ends p) (hq : Ends q) : Ends (pIf s p q) := fun l => by
  unfold pIf
  cases h : pTake s l with
  | none => exact hq l
  | some r =>
    obtain ⟨t, rfl, _⟩ := take_end h
    have h2 := hp r
    cases e : p r with
    | error s => simp only [e] at h2 ⊢; exact h2.trans (List.suffix_cons _ _)
    | ok v => obtain ⟨y, r2⟩ := v; simp only [e] at h2 ⊢; exact h2.trans (List.suffix_cons _ _)
theorem ends_more : ∀ (f : Nat) (acc : List Str), Ends (pMore f acc)
  | 0, acc => fun l => List.suffix_refl _
  | f + 1, acc => fun l => by
    unfold pMore
    cases h : pTake sComma l with
    | none => exact List.suffix_refl _
    | some r =>
      obtain ⟨t, rfl, _⟩ := take_end h
      have h2 := ends_name r
      cases e : pName r with
      | error s => simp only [e] at h2 ⊢; exact h2.trans (List.suffix_cons _ _)
      | ok v =>
        obtain ⟨y, r2⟩ := v
        simp only [e] at h2 ⊢
        have h3 := ends_more f (acc ++ [y]) r2
        cases e3 : pMore f (acc ++ [y]) r2 with
        | error s => simp only [e3] at h3 ⊢; exact h3.trans (h2.trans (List.suffix_cons _ _))
        | ok v => obtain ⟨z, r3⟩ := v; simp only [e3] at h3 ⊢; exact h3.trans (h2.trans (List.suffix_cons _ _))
theorem ends_against : Ends pAgainst := fun l => by
  unfold pAgainst
  cases h : pTake wAgainst l with
  | none => exact List.suffix_refl _
  | some r =>
    obtain ⟨t, rfl, _⟩ := take_end h
    have h2 := ends_name r
    cases e : pName r with
    | error s => simp only [e] at h2 ⊢; exact h2.trans (List.suffix_cons _ _)
    | ok v =>
      obtain ⟨y, r2⟩ := v
      simp only [e] at h2 ⊢
      have h3 := ends_more r2.length [y] r2
      cases e3 : pMore r2.length [y] r2 with
      | error s => simp only [e3] at h3 ⊢; exact h3.trans (h2.trans (List.suffix_cons _ _))
      | ok v => obtain ⟨z, r3⟩ := v; simp only [e3] at h3 ⊢; exact h3.trans (h2.trans (List.suffix_cons _ _))
theorem ends_back : Ends pBack := ends_if (ends_pure _) (ends_pure _)
theorem ends_else : Ends pElse := ends_if (ends_if (ends_pure _) (ends_bind (ends_want _) fun _ => ends_pure _)) (ends_pure _)
theorem ends_wn (s : Str) : Ends (pWN s) := ends_bind (ends_want _) fun _ => ends_name
theorem ends_wm (s : Str) (m : Int) : Ends (pWM s m) := ends_bind (ends_want _) fun _ => ends_num _
theorem ends_body : Ends pBody := ends_bind (ends_wn _) fun a => ends_bind (ends_wn _) fun b => ends_bind (ends_wn _) fun c => ends_bind (ends_wn _) fun d => ends_bind (ends_wm _ _) fun i => ends_bind (ends_wm _ _) fun j => ends_bind (ends_wm _ _) fun k => ends_bind ends_against fun ag => ends_bind (ends_wm _ _) fun p => ends_bind ends_back fun bk => ends_bind ends_else fun el => ends_pure _
/-- an order is its body and its last sign -/
theorem order_body {l : List Tok} {x : WishD} {r : List Tok} (h : pOrder l = .ok (x, r)) : ∃ t, pBody l = .ok (x, t :: r) ∧ isT t sSemi = true := by
  unfold pOrder pBind at h
  cases e : pBody l with
  | error s => rw [e] at h; cases h
  | ok v =>
    obtain ⟨y, r1⟩ := v
    rw [e] at h
    unfold pWant at h
    simp only at h
    cases e2 : pTake sSemi r1 with
    | none => rw [e2] at h; cases h
    | some r2 =>
      obtain ⟨t, rfl, ht⟩ := take_end e2
      rw [e2] at h
      simp only [pPure] at h
      cases h
      exact ⟨t, rfl, ht⟩
/-- an order takes a token at least -/
theorem order_some {l : List Tok} {x : WishD} {r : List Tok} (h : pOrder l = .ok (x, r)) : ∃ t u, l = t :: u ∧ r <:+ u := by
  obtain ⟨t, h1, _⟩ := order_body h
  have h2 := ends_body l
  rw [h1] at h2
  simp only at h2
  obtain ⟨p, rfl⟩ := h2
  cases p with
  | nil => exact ⟨t, r, rfl, List.suffix_refl _⟩
  | cons a p => exact ⟨a, p ++ t :: r, rfl, ⟨p ++ [t], by simp⟩⟩
theorem ends_order : Ends pOrder := ends_bind ends_body fun x => ends_bind (ends_want _) fun _ => ends_pure _
theorem readF_fuel : ∀ (f g : Nat) (l : List Tok), l.length ≤ f → l.length ≤ g → pReadF f l = pReadF g l
  | f, g, [], _, _ => by unfold pReadF; rfl
  | 0, g, t :: r, h, _ => by simp at h
  | f + 1, 0, t :: r, _, h => by simp at h
  | f + 1, g + 1, t :: r, h1, h2 => by
    unfold pReadF
    cases e : pOrder (t :: r) with
    | error s => rfl
    | ok v =>
      obtain ⟨x, r'⟩ := v
      obtain ⟨t', u, he, hs⟩ := order_some e
      injection he with _ he
      subst he
      have := hs.length_le
      simp only [List.length_cons] at h1 h2
      simp only
      rw [readF_fuel f g r' (by omega) (by omega)]
theorem read_nil : pRead [] = .ok [] := rfl
theorem read_cons {l : List Tok} (hl : l ≠ []) : pRead l = match pOrder l with
    | .error e => .error e
    | .ok (x, r) => match pRead r with
      | .error e => .error e
      | .ok xs => .ok (x :: xs) := by
  cases l with
  | nil => exact absurd rfl hl
  | cons t u =>
    show pReadF (u.length + 1) (t :: u) = _
    unfold pReadF
    cases e : pOrder (t :: u) with
    | error s => rfl
    | ok v =>
      obtain ⟨x, r⟩ := v
      obtain ⟨t', u', he, hs⟩ := order_some e
      injection he with _ he
      subst he
      simp only
      rw [readF_fuel u.length r.length r hs.length_le (Nat.le_refl _)]
      rfl
theorem more_succ (f : Nat) (acc : List Str) (l : List Tok) : pMore (f + 1) acc l = match pTake sComma l with
    | none => .ok (acc, l)
    | some r => match pName r with
      | .error e => .error e
      | .ok (s, r') => pMore f (acc ++ [s]) r' := rfl
theorem more_fuel : ∀ (f g : Nat) (acc : List Str) (l : List Tok), l.length ≤ f → l.length ≤ g → pMore f acc l = pMore g acc l
  | 0, 0, acc, l, _, _ => rfl
  | 0, g + 1, acc, l, h, _ => by
    have : l = [] := List.length_eq_zero_iff.1 (by omega)
    subst this; rfl
  | f + 1, 0, acc, l, _, h => by
    have : l = [] := List.length_eq_zero_iff.1 (by omega)
    subst this; rfl
  | f + 1, g + 1, acc, l, h1, h2 => by
    rw [more_succ, more_succ]
    cases h : pTake sComma l with
    | none => rfl
    | some r =>
      obtain ⟨t, rfl, _⟩ := take_end h
      have h3 := ends_name r
      simp only
      cases e : pName r with
      | error s => rfl
      | ok v =>
        obtain ⟨y, r2⟩ := v
        rw [e] at h3
        have := h3.length_le
        simp only [List.length_cons] at h1 h2
        simp only
        exact more_fuel f g _ r2 (by omega) (by omega)
/-- the offices behind the first one -/
def pMoreA (acc : List Str) (l : List Tok) : PR (List Str) := pMore l.length acc l
theorem moreA_step (acc : List Str) (l : List Tok) : pMoreA acc l = match pTake sComma l with
    | none => .ok (acc, l)
    | some r => match pName r with
      | .error e => .error e
      | .ok (s, r') => pMoreA (acc ++ [s]) r' := by
  unfold pMoreA
  cases l with
  | nil => rfl
  | cons t u =>
    show pMore (u.length + 1) acc (t :: u) = _
    rw [more_succ]
    cases h : pTake sComma (t :: u) with
    | none => rfl
    | some r =>
      obtain ⟨t', he, _⟩ := take_end h
      injection he with _ he
      subst he
      have h3 := ends_name u
      simp only
      cases e : pName u with
      | error s => rfl
      | ok v =>
        obtain ⟨y, r2⟩ := v
        rw [e] at h3
        simp only
        exact more_fuel _ _ _ _ h3.length_le (Nat.le_refl _)
end Go.Proofs.YtfnmidddgjlipaaDoor
