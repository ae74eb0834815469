/-
  Layer 17 (grammar), plain: laws of the parser: positions do not matter; what stands ahead decides; sources one after the other.
-/
import Derived.Test.YtfnmidddgjlipaaDoorY0
set_option linter.unusedVariables false
set_option linter.unusedSimpArgs false
namespace Go.Proofs.YtfnmidddgjlipaaDoor

/-! ### positions do not matter -/
def RelP {α : Type} : PR α → PR α → Prop
  | .error e, .error e' => e.map erase = e'.map erase
  | .ok (x, r), .ok (x', r') => x = x' ∧ r.map erase = r'.map erase
  | _, _ => False
def Eras {α : Type} (p : List Tok → PR α) : Prop := ∀ l l', l.map erase = l'.map erase → RelP (p l) (p l')
theorem erase_eqY {t u : Tok} (h : erase t = erase u) : t.kind = u.kind ∧ t.text = u.text ∧ t.n = u.n := by
  cases t; cases u
  unfold erase at h
  injection h with h1 h2 h3
  exact ⟨h1, h2, h3⟩
theorem isT_erase {t u : Tok} (h : erase t = erase u) (s : Str) : isT t s = isT u s := by
  obtain ⟨h1, h2, h3⟩ := erase_eqY h
  unfold isT; rw [h1, h2]
theorem okName_erase {t u : Tok} (h : erase t = erase u) : okName t = okName u := by
  obtain ⟨h1, h2, h3⟩ := erase_eqY h
  unfold okName; rw [h1, h2]
theorem okNum_erase {t u : Tok} (h : erase t = erase u) (m : Int) : okNum m t = okNum m u := by
  obtain ⟨h1, h2, h3⟩ := erase_eqY h
  unfold okNum; rw [h1, h3]
theorem list_cases {l l' : List Tok} (h : l.map erase = l'.map erase) : (l = [] ∧ l' = []) ∨ ∃ t r t' r', l = t :: r ∧ l' = t' :: r' ∧ erase t = erase t' ∧ r.map erase = r'.map erase := by
  cases l with
  | nil =>
    cases l' with
    | nil => exact .inl ⟨rfl, rfl⟩
    | cons t r => cases h
  | cons t r =>
    cases l' with
    | nil => cases h
    | cons t' r' =>
      simp only [List.map_cons] at h
      injection h with h1 h2
      exact .inr ⟨t, r, t', r', rfl, rfl, h1, h2⟩
theorem take_eras {s : Str} {l l' : List Tok} (h : l.map erase = l'.map erase) : (pTake s l = none ∧ pTake s l' = none) ∨ ∃ r r', pTake s l = some r ∧ pTake s l' = some r' ∧ r.map erase = r'.map erase := by
  rcases list_cases h with ⟨rfl, rfl⟩ | ⟨t, r, t', r', rfl, rfl, h1, h2⟩
  · exact .inl ⟨rfl, rfl⟩
  · rw [take_cons, take_cons, isT_erase h1 s]
    by_cases hc : isT t' s = true
    · rw [if_pos hc, if_pos hc]; exact .inr ⟨r, r', rfl, rfl, h2⟩
    · rw [if_neg hc, if_neg hc]; exact .inl ⟨rfl, rfl⟩
theorem eras_want (s : Str) : Eras (pWant s) := fun l l' h => by
  unfold pWant
  rcases take_eras (s := s) h with ⟨e1, e2⟩ | ⟨r, r', e1, e2, h2⟩
  · rw [e1, e2]; exact h
  · rw [e1, e2]; exact ⟨rfl, h2⟩
theorem eras_name : Eras pName := fun l l' h => by
  rcases list_cases h with ⟨rfl, rfl⟩ | ⟨t, r, t', r', rfl, rfl, h1, h2⟩
  · exact rfl
  · rw [name_cons, name_cons, okName_erase h1]
    by_cases hc : okName t' = true
    · rw [if_pos hc, if_pos hc]; exact ⟨(erase_eqY h1).2.1, h2⟩
    · rw [if_neg hc, if_neg hc]; exact h
theorem eras_num (m : Int) : Eras (pNum m) := fun l l' h => by
  rcases list_cases h with ⟨rfl, rfl⟩ | ⟨t, r, t', r', rfl, rfl, h1, h2⟩
  · exact rfl
  · rw [num_cons, num_cons, okNum_erase h1]
    by_cases hc : okNum m t' = true
    · rw [if_pos hc, if_pos hc]; exact ⟨(erase_eqY h1).2.2, h2⟩
    · rw [if_neg hc, if_neg hc]; exact h
theorem eras_pure {α : Type} (x : α) : Eras (pPure x) := fun l l' h => ⟨rfl, h⟩
theorem eras_bind {α β : Type} {p : List Tok → PR α} {q : α → List Tok → PR β} (hp : Eras p) (hq : ∀ x, Eras (q x)) : Eras (pBind p q) := fun l l' h => by
  have h1 := hp l l' h
  unfold pBind
  cases e : p l with
  | error s =>
    cases e' : p l' with
    | error s' => rw [e, e'] at h1; exact h1
    | ok v => rw [e, e'] at h1; exact h1.elim
  | ok v =>
    cases e' : p l' with
    | error s' => rw [e, e'] at h1; exact h1.elim
    | ok v' =>
      obtain ⟨x, r⟩ := v
      obtain ⟨x', r'⟩ := v'
      rw [e, e'] at h1
      obtain ⟨rfl, h2⟩ := h1
      exact hq x r r' h2
theorem eras_if {α : Type} {s : Str} {p q : List Tok → PR α} (hp : Eras p) (hq : Eras q) : Eras (pIf s p q) := fun l l' h => by
  unfold pIf
  rcases take_eras (s := s) h with ⟨e1, e2⟩ | ⟨r, r', e1, e2, h2⟩
  · rw [e1, e2]; exact hq l l' h
  · rw [e1, e2]; exact hp r r' h2
theorem eras_more : ∀ (f : Nat) (acc : List Str), Eras (pMore f acc)
  | 0, acc => fun l l' h => ⟨rfl, h⟩
  | f + 1, acc => fun l l' h => by
    rw [more_succ, more_succ]
    rcases take_eras (s := sComma) h with ⟨e1, e2⟩ | ⟨r, r', e1, e2, h2⟩
    · rw [e1, e2]; exact ⟨rfl, h⟩
    · rw [e1, e2]
      have h1 := eras_name r r' h2
      simp only
      cases e : pName r with
      | error s =>
        cases e' : pName r' with
        | error s' => rw [e, e'] at h1; exact h1
        | ok v => rw [e, e'] at h1; exact h1.elim
      | ok v =>
        cases e' : pName r' with
        | error s' => rw [e, e'] at h1; exact h1.elim
        | ok v' =>
          obtain ⟨x, r⟩ := v
          obtain ⟨x', r'⟩ := v'
          rw [e, e'] at h1
          obtain ⟨rfl, h3⟩ := h1
          exact eras_more f _ _ _ h3
theorem eras_against : Eras pAgainst := fun l l' h => by
  unfold pAgainst
  rcases take_eras (s := wAgainst) h with ⟨e1, e2⟩ | ⟨r, r', e1, e2, h2⟩
  · rw [e1, e2]; exact ⟨rfl, h⟩
  · rw [e1, e2]
    have h1 := eras_name r r' h2
    simp only
    cases e : pName r with
    | error s =>
      cases e' : pName r' with
      | error s' => rw [e, e'] at h1; exact h1
      | ok v => rw [e, e'] at h1; exact h1.elim
    | ok v =>
      cases e' : pName r' with
      | error s' => rw [e, e'] at h1; exact h1.elim
      | ok v' =>
        obtain ⟨x, r⟩ := v
        obtain ⟨x', r'⟩ := v'
        rw [e, e'] at h1
        obtain ⟨rfl, h3⟩ := h1
        have hl : r.length = r'.length := by have := congrArg List.length h3; simpa using this
        simp only
        rw [hl]
        exact eras_more _ _ _ _ h3
theorem eras_wn (s : Str) : Eras (pWN s) := eras_bind (eras_want _) fun _ => eras_name
theorem eras_wm (s : Str) (m : Int) : Eras (pWM s m) := eras_bind (eras_want _) fun _ => eras_num _
theorem eras_back : Eras pBack := eras_if (eras_pure _) (eras_pure _)
theorem eras_else : Eras pElse := eras_if (eras_if (eras_pure _) (eras_bind (eras_want _) fun _ => eras_pure _)) (eras_pure _)
theorem eras_body : Eras pBody := eras_bind (eras_wn _) fun a => eras_bind (eras_wn _) fun b => eras_bind (eras_wn _) fun c => eras_bind (eras_wn _) fun d => eras_bind (eras_wm _ _) fun i => eras_bind (eras_wm _ _) fun j => eras_bind (eras_wm _ _) fun k => eras_bind eras_against fun ag => eras_bind (eras_wm _ _) fun p => eras_bind eras_back fun bk => eras_bind eras_else fun el => eras_pure _
theorem eras_order : Eras pOrder := eras_bind eras_body fun x => eras_bind (eras_want _) fun _ => eras_pure _
def RelR : Except (List Tok) (List WishD) → Except (List Tok) (List WishD) → Prop
  | .error e, .error e' => e.map erase = e'.map erase
  | .ok x, .ok x' => x = x'
  | _, _ => False
theorem eras_readF : ∀ (f : Nat) (l l' : List Tok), l.map erase = l'.map erase → RelR (pReadF f l) (pReadF f l') := by
  intro f
  induction f with
  | zero =>
    intro l l' h
    rcases list_cases h with ⟨rfl, rfl⟩ | ⟨t, r, t', r', rfl, rfl, h1, h2⟩
    · exact rfl
    · exact rfl
  | succ f ih =>
    intro l l' h
    rcases list_cases h with ⟨rfl, rfl⟩ | ⟨t, r, t', r', rfl, rfl, h1, h2⟩
    · exact rfl
    · unfold pReadF
      have h3 := eras_order _ _ h
      cases e : pOrder (t :: r) with
      | error s =>
        cases e' : pOrder (t' :: r') with
        | error s' => rw [e, e'] at h3; exact h3
        | ok v => rw [e, e'] at h3; exact h3.elim
      | ok v =>
        cases e' : pOrder (t' :: r') with
        | error s' => rw [e, e'] at h3; exact h3.elim
        | ok v' =>
          obtain ⟨x, u⟩ := v
          obtain ⟨x', u'⟩ := v'
          rw [e, e'] at h3
          obtain ⟨rfl, h4⟩ := h3
          have h5 := ih u u' h4
          simp only
          cases e2 : pReadF f u with
          | error s =>
            cases e3 : pReadF f u' with
            | error s' => rw [e2, e3] at h5; exact h5
            | ok v => rw [e2, e3] at h5; exact h5.elim
          | ok v =>
            cases e3 : pReadF f u' with
            | error s' => rw [e2, e3] at h5; exact h5.elim
            | ok v' => rw [e2, e3] at h5; exact congrArg _ h5
theorem eras_read {l l' : List Tok} (h : l.map erase = l'.map erase) : RelR (pRead l) (pRead l') := by
  have hl : l.length = l'.length := by have := congrArg List.length h; simpa using this
  unfold pRead
  rw [hl]
  exact eras_readF _ _ _ h

/-! ### what stands ahead decides -/
def Pre {α : Type} (p : List Tok → PR α) : Prop := ∀ a b b', (∀ s0, s0 ≠ [] → p (a ++ b) = .error (s0 ++ b) → p (a ++ b') = .error (s0 ++ b')) ∧ ∀ x r0, r0 ≠ [] → p (a ++ b) = .ok (x, r0 ++ b) → p (a ++ b') = .ok (x, r0 ++ b')
theorem no_suffix {s0 b : List Tok} (hs : s0 ≠ []) (h : s0 ++ b <:+ b) : False := by
  have h1 := h.length_le
  have h2 := List.length_pos_iff.2 hs
  simp at h1
  omega
theorem pre_nil {α : Type} {p : List Tok → PR α} (he : Ends p) (b b' : List Tok) : (∀ s0, s0 ≠ [] → p ([] ++ b) = .error (s0 ++ b) → p ([] ++ b') = .error (s0 ++ b')) ∧ ∀ x r0, r0 ≠ [] → p ([] ++ b) = .ok (x, r0 ++ b) → p ([] ++ b') = .ok (x, r0 ++ b') := by
  have h := he b
  constructor
  · intro s0 hs e
    rw [List.nil_append] at e
    rw [e] at h
    exact (no_suffix hs h).elim
  · intro x r0 hs e
    rw [List.nil_append] at e
    rw [e] at h
    exact (no_suffix hs h).elim
theorem suffix_app {s0 b r : List Tok} (hs : s0 ≠ []) (h : s0 ++ b <:+ r) : ∃ r0, r = r0 ++ b ∧ r0 ≠ [] := by
  obtain ⟨u, rfl⟩ := h
  refine ⟨u ++ s0, by simp, fun e => ?_⟩
  have := (List.append_eq_nil_iff.1 e).2
  exact hs this
theorem pre_want (s : Str) : Pre (pWant s) := fun a b b' => by
  cases a with
  | nil => exact pre_nil (ends_want s) b b'
  | cons t a =>
    simp only [List.cons_append, pWant, take_cons]
    by_cases hc : isT t s = true
    · simp only [if_pos hc]
      refine ⟨fun s0 hs e => (by cases e), fun x r0 hr e => ?_⟩
      injection e with e
      injection e with _ e
      rw [List.append_cancel_right e]
    · simp only [if_neg hc]
      refine ⟨fun s0 hs e => ?_, fun x r0 hr e => by cases e⟩
      injection e with e
      rw [← List.cons_append] at e
      rw [← List.append_cancel_right e]
      rfl
theorem pre_name : Pre pName := fun a b b' => by
  cases a with
  | nil => exact pre_nil ends_name b b'
  | cons t a =>
    simp only [List.cons_append, name_cons]
    by_cases hc : okName t = true
    · simp only [if_pos hc]
      refine ⟨fun s0 hs e => (by cases e), fun x r0 hr e => ?_⟩
      injection e with e
      injection e with e1 e
      rw [List.append_cancel_right e, e1]
    · simp only [if_neg hc]
      refine ⟨fun s0 hs e => ?_, fun x r0 hr e => by cases e⟩
      injection e with e
      rw [← List.cons_append] at e
      rw [← List.append_cancel_right e]
      rfl
theorem pre_num (m : Int) : Pre (pNum m) := fun a b b' => by
  cases a with
  | nil => exact pre_nil (ends_num m) b b'
  | cons t a =>
    simp only [List.cons_append, num_cons]
    by_cases hc : okNum m t = true
    · simp only [if_pos hc]
      refine ⟨fun s0 hs e => (by cases e), fun x r0 hr e => ?_⟩
      injection e with e
      injection e with e1 e
      rw [List.append_cancel_right e, e1]
    · simp only [if_neg hc]
      refine ⟨fun s0 hs e => ?_, fun x r0 hr e => by cases e⟩
      injection e with e
      rw [← List.cons_append] at e
      rw [← List.append_cancel_right e]
      rfl
theorem pre_pure {α : Type} (y : α) : Pre (pPure y) := fun a b b' => by
  refine ⟨fun s0 hs e => (by cases e), fun x r0 hr e => ?_⟩
  unfold pPure at e ⊢
  injection e with e
  injection e with e1 e
  rw [List.append_cancel_right e, e1]
theorem pre_bind {α β : Type} {p : List Tok → PR α} {q : α → List Tok → PR β} (hp : Pre p) (hep : Ends p) (hq : ∀ x, Pre (q x)) (heq : ∀ x, Ends (q x)) : Pre (pBind p q) := fun a b b' => by
  obtain ⟨p1, p2⟩ := hp a b b'
  unfold pBind
  cases e : p (a ++ b) with
  | error s =>
    refine ⟨fun s0 hs h => ?_, fun x r0 hr h => by cases h⟩
    injection h with h
    rw [h] at e
    rw [p1 s0 hs e]
  | ok v =>
    obtain ⟨x, r⟩ := v
    simp only
    have hx := heq x r
    refine ⟨fun s0 hs h => ?_, fun y r0 hr h => ?_⟩
    · rw [h] at hx
      obtain ⟨r1, rfl, hr1⟩ := suffix_app hs hx
      rw [p2 x r1 hr1 e]
      exact (hq x r1 b b').1 s0 hs h
    · rw [h] at hx
      obtain ⟨r1, rfl, hr1⟩ := suffix_app hr hx
      rw [p2 x r1 hr1 e]
      exact (hq x r1 b b').2 y r0 hr h
theorem pre_if {α : Type} {s : Str} {p q : List Tok → PR α} (hp : Pre p) (hep : Ends p) (hq : Pre q) (heq : Ends q) : Pre (pIf s p q) := fun a b b' => by
  cases a with
  | nil => exact pre_nil (ends_if hep heq) b b'
  | cons t a =>
    simp only [List.cons_append, pIf, take_cons]
    by_cases hc : isT t s = true
    · simp only [if_pos hc]; exact hp a b b'
    · simp only [if_neg hc]; exact hq (t :: a) b b'
theorem more_eq (f : Nat) (acc : List Str) : pMore (f + 1) acc = pIf sComma (pBind pName fun s => pMore f (acc ++ [s])) (pPure acc) := by
  funext l
  rw [more_succ]
  unfold pIf pBind
  cases h : pTake sComma l with
  | none => rfl
  | some r =>
    simp only
    cases pName r <;> rfl
theorem pre_more : ∀ (f : Nat) (acc : List Str), Pre (pMore f acc)
  | 0, acc => pre_pure acc
  | f + 1, acc => by
    rw [more_eq]
    exact pre_if (pre_bind pre_name ends_name (fun s => pre_more f _) (fun s => ends_more f _)) (ends_bind ends_name fun s => ends_more f _) (pre_pure acc) (ends_pure acc)
theorem pre_moreA (acc : List Str) : Pre (pMoreA acc) := fun a b b' => by
  unfold pMoreA
  rw [more_fuel _ ((a ++ b).length + (a ++ b').length) acc (a ++ b) (Nat.le_refl _) (by omega), more_fuel _ ((a ++ b).length + (a ++ b').length) acc (a ++ b') (Nat.le_refl _) (by omega)]
  exact pre_more _ _ a b b'
theorem against_eq : pAgainst = pIf wAgainst (pBind pName fun s => pMoreA [s]) (pPure []) := by
  funext l
  unfold pAgainst pIf pBind
  cases h : pTake wAgainst l with
  | none => rfl
  | some r =>
    simp only
    cases pName r <;> rfl
theorem ends_moreA (acc : List Str) : Ends (pMoreA acc) := fun l => ends_more l.length acc l
theorem pre_against : Pre pAgainst := by
  rw [against_eq]
  exact pre_if (pre_bind pre_name ends_name (fun s => pre_moreA _) (fun s => ends_moreA _)) (ends_bind ends_name fun s => ends_moreA _) (pre_pure _) (ends_pure _)
theorem pre_wn (s : Str) : Pre (pWN s) := pre_bind (pre_want _) (ends_want _) (fun _ => pre_name) (fun _ => ends_name)
theorem pre_wm (s : Str) (m : Int) : Pre (pWM s m) := pre_bind (pre_want _) (ends_want _) (fun _ => pre_num _) (fun _ => ends_num _)
theorem pre_back : Pre pBack := pre_if (pre_pure _) (ends_pure _) (pre_pure _) (ends_pure _)
theorem pre_else : Pre pElse := pre_if (pre_if (pre_pure _) (ends_pure _) (pre_bind (pre_want _) (ends_want _) (fun _ => pre_pure _) (fun _ => ends_pure _)) (ends_bind (ends_want _) fun _ => ends_pure _)) (ends_if (ends_pure _) (ends_bind (ends_want _) fun _ => ends_pure _)) (pre_pure _) (ends_pure _)
/-- a part is good: it leaves an end, and what stands ahead decides -/
structure Good {α : Type} (p : List Tok → PR α) : Prop where
  e : Ends p
  p : Pre p
theorem Good.bind {α β : Type} {p : List Tok → PR α} {q : α → List Tok → PR β} (hp : Good p) (hq : ∀ x, Good (q x)) : Good (pBind p q) := ⟨ends_bind hp.e fun x => (hq x).e, pre_bind hp.p hp.e (fun x => (hq x).p) (fun x => (hq x).e)⟩
theorem good_wn (s : Str) : Good (pWN s) := ⟨ends_wn s, pre_wn s⟩
theorem good_wm (s : Str) (m : Int) : Good (pWM s m) := ⟨ends_wm s m, pre_wm s m⟩
theorem good_body : Good pBody :=
  (good_wn _).bind fun a => (good_wn _).bind fun b => (good_wn _).bind fun c => (good_wn _).bind fun d => (good_wm _ _).bind fun i => (good_wm _ _).bind fun j => (good_wm _ _).bind fun k =>
  (Good.mk ends_against pre_against).bind fun ag => (good_wm _ _).bind fun p => (Good.mk ends_back pre_back).bind fun bk => (Good.mk ends_else pre_else).bind fun el => ⟨ends_pure _, pre_pure _⟩
theorem good_order : Good pOrder := good_body.bind fun x => (Good.mk (ends_want _) (pre_want _)).bind fun _ => ⟨ends_pure _, pre_pure _⟩
theorem read_end : ∀ (n : Nat) (l : List Tok), l.length ≤ n → ∀ e, pRead l = .error e → e <:+ l
  | _, [], _, e, h => by cases h
  | 0, t :: u, hn, e, h => by simp at hn
  | n + 1, t :: u, hn, e, h => by
    rw [read_cons (by simp)] at h
    cases e1 : pOrder (t :: u) with
    | error s =>
      rw [e1] at h
      injection h with h
      subst h
      have := ends_order (t :: u)
      rw [e1] at this
      exact this
    | ok v =>
      obtain ⟨x, r⟩ := v
      rw [e1] at h
      simp only at h
      obtain ⟨t', u', he, hs⟩ := order_some e1
      injection he with _ he
      subst he
      cases e2 : pRead r with
      | error s =>
        rw [e2] at h
        injection h with h
        subst h
        have := hs.length_le
        simp only [List.length_cons] at hn
        exact ((read_end n r (by omega) s e2).trans hs).trans (List.suffix_cons _ _)
      | ok v => rw [e2] at h; cases h
theorem read_pre : ∀ (n : Nat) (a b b' s0 : List Tok), a.length ≤ n → s0 ≠ [] → pRead (a ++ b) = .error (s0 ++ b) → pRead (a ++ b') = .error (s0 ++ b')
  | n, [], b, b', s0, _, hs, h => by
    have := read_end _ _ (Nat.le_refl _) _ h
    exact (no_suffix hs this).elim
  | 0, t :: a, b, b', s0, hn, hs, h => by simp at hn
  | n + 1, t :: a, b, b', s0, hn, hs, h => by
    rw [List.cons_append, read_cons (by simp)] at h
    rw [List.cons_append, read_cons (by simp)]
    obtain ⟨g1, g2⟩ := good_order.p (t :: a) b b'
    rw [List.cons_append, List.cons_append] at g1 g2
    cases e1 : pOrder (t :: (a ++ b)) with
    | error s =>
      rw [e1] at h
      injection h with h
      rw [h] at e1
      rw [g1 s0 hs e1]
    | ok v =>
      obtain ⟨x, r⟩ := v
      rw [e1] at h
      simp only at h
      cases e2 : pRead r with
      | error s =>
        rw [e2] at h
        injection h with h
        subst h
        obtain ⟨r0, rfl, hr0⟩ := suffix_app hs (read_end _ _ (Nat.le_refl _) _ e2)
        rw [g2 x r0 hr0 e1]
        simp only
        obtain ⟨t', u', he, hsf⟩ := order_some e1
        injection he with _ he
        subst he
        have := hsf.length_le
        simp only [List.length_append] at this
        simp only [List.length_cons] at hn
        rw [read_pre n r0 b b' s0 (by omega) hs e2]
      | ok v => rw [e2] at h; cases h
/-- the beginnings of tokens that are accepted -/
theorem read_cut {a b : List Tok} {xs : List WishD} (h : pRead (a ++ b) = .ok xs) : (∃ ys, pRead a = .ok ys) ∨ pRead a = .error [] := by
  cases e : pRead a with
  | ok ys => exact .inl ⟨ys, rfl⟩
  | error s =>
    right
    cases s with
    | nil => rfl
    | cons t s =>
      have e' : pRead (a ++ []) = .error ((t :: s) ++ []) := by simpa using e
      have := read_pre _ a [] b (t :: s) (Nat.le_refl _) (by simp) e'
      rw [h] at this
      cases this
/-- another end: the first wrong token is none of those ahead of it -/
theorem read_change {a b b' s : List Tok} {xs : List WishD} (h : pRead (a ++ b) = .ok xs) (hs : pRead (a ++ b') = .error s) : s <:+ b' := by
  have h1 := read_end _ _ (Nat.le_refl _) _ hs
  rcases List.suffix_or_suffix_of_suffix h1 (List.suffix_append a b') with h2 | h2
  · exact h2
  · obtain ⟨s0, rfl⟩ := h2
    cases s0 with
    | nil => exact List.suffix_refl _
    | cons t s0 =>
      have := read_pre _ a b' b (t :: s0) (Nat.le_refl _) (by simp) hs
      rw [h] at this
      cases this

/-! ### one after the other -/
theorem order_app {l : List Tok} {x : WishD} {r : List Tok} (h : pOrder l = .ok (x, r)) (b : List Tok) : pOrder (l ++ b) = .ok (x, r ++ b) := by
  obtain ⟨t, h1, h2⟩ := order_body h
  have h3 := (good_body.p l [] b).2 x (t :: r) (by simp) (by simpa using h1)
  unfold pOrder pBind
  rw [h3]
  simp only [List.cons_append, pWant, take_cons, if_pos h2, pPure]
theorem read_app : ∀ (n : Nat) (a b : List Tok) (xs : List WishD), a.length ≤ n → pRead a = .ok xs → pRead (a ++ b) = match pRead b with
    | .error e => .error e
    | .ok ys => .ok (xs ++ ys)
  | _, [], b, xs, _, h => by
    cases h
    rw [List.nil_append]
    cases pRead b <;> rfl
  | 0, t :: a, b, xs, hn, h => by simp at hn
  | n + 1, t :: a, b, xs, hn, h => by
    rw [read_cons (by simp)] at h
    rw [read_cons (by simp)]
    cases e1 : pOrder (t :: a) with
    | error s => rw [e1] at h; cases h
    | ok v =>
      obtain ⟨x, r⟩ := v
      rw [e1] at h
      simp only at h
      rw [order_app e1 b]
      simp only
      obtain ⟨t', u', he, hsf⟩ := order_some e1
      injection he with _ he
      subst he
      have := hsf.length_le
      simp only [List.length_cons] at hn
      cases e2 : pRead r with
      | error s => rw [e2] at h; cases h
      | ok ys =>
        rw [e2] at h
        cases h
        rw [read_app n r b ys (by omega) e2]
        cases pRead b <;> rfl
end Go.Proofs.YtfnmidddgjlipaaDoor
