/-
  Layer 17 (grammar), plain: where the values of orders come from; tokens of orders are read again.
-/
import Derived.Test.YtfnmidddgjlipaaDoorY1
set_option linter.unusedVariables false
set_option linter.unusedSimpArgs false
namespace Go.Proofs.YtfnmidddgjlipaaDoor

def Sat {α : Type} (T : Tok → Prop) (p : List Tok → PR α) (P : α → Prop) : Prop := ∀ l x r, (∀ t ∈ l, T t) → p l = .ok (x, r) → P x
section
variable {T : Tok → Prop}
theorem sat_bind {α β : Type} {p : List Tok → PR α} {q : α → List Tok → PR β} {P : α → Prop} {Q : β → Prop} (hp : Sat T p P) (he : Ends p) (hq : ∀ x, P x → Sat T (q x) Q) : Sat T (pBind p q) Q := fun l y r hl h => by
  unfold pBind at h
  cases e : p l with
  | error s => rw [e] at h; cases h
  | ok v =>
    obtain ⟨x, r1⟩ := v
    rw [e] at h
    have h1 := he l
    rw [e] at h1
    exact hq x (hp l x r1 hl e) r1 y r (fun t ht => hl t (h1.subset ht)) h
theorem sat_pure {α : Type} {x : α} {P : α → Prop} (h : P x) : Sat T (pPure x) P := fun l y r hl e => by cases e; exact h
theorem sat_want (s : Str) : Sat T (pWant s) (fun _ => True) := fun _ _ _ _ _ => trivial
def NameFrom (T : Tok → Prop) (s : Str) : Prop := ∃ t, T t ∧ okName t = true ∧ s = t.text
def NumFrom (T : Tok → Prop) (m : Int) (n : Int) : Prop := ∃ t, T t ∧ okNum m t = true ∧ n = t.n
theorem sat_name : Sat T pName (NameFrom T) := fun l x r hl h => by
  cases l with
  | nil => cases h
  | cons t u =>
    rw [name_cons] at h
    split at h
    · rename_i hc; cases h; exact ⟨t, hl t (List.mem_cons_self ..), hc, rfl⟩
    · cases h
theorem sat_num (m : Int) : Sat T (pNum m) (NumFrom T m) := fun l x r hl h => by
  cases l with
  | nil => cases h
  | cons t u =>
    rw [num_cons] at h
    split at h
    · rename_i hc; cases h; exact ⟨t, hl t (List.mem_cons_self ..), hc, rfl⟩
    · cases h
theorem sat_wn (s : Str) : Sat T (pWN s) (NameFrom T) := sat_bind (sat_want s) (ends_want s) fun _ _ => sat_name
theorem sat_wm (s : Str) (m : Int) : Sat T (pWM s m) (NumFrom T m) := sat_bind (sat_want s) (ends_want s) fun _ _ => sat_num m
theorem sat_if {α : Type} {s : Str} {p q : List Tok → PR α} {P : α → Prop} (hp : Sat T p P) (hq : Sat T q P) : Sat T (pIf s p q) P := fun l x r hl h => by
  unfold pIf at h
  cases e : pTake s l with
  | none => rw [e] at h; exact hq l x r hl h
  | some u =>
    rw [e] at h
    obtain ⟨t, rfl, _⟩ := take_end e
    exact hp u x r (fun t ht => hl t (List.mem_cons_of_mem _ ht)) h
theorem sat_more : ∀ (f : Nat) (acc : List Str), (∀ s ∈ acc, NameFrom T s) → Sat T (pMore f acc) (fun ag => ∀ s ∈ ag, NameFrom T s)
  | 0, acc, h => sat_pure h
  | f + 1, acc, h => by
    rw [more_eq]
    refine sat_if (sat_bind sat_name ends_name fun s hs => sat_more f (acc ++ [s]) ?_) (sat_pure h)
    intro u hu
    rcases List.mem_append.1 hu with hu | hu
    · exact h u hu
    · obtain rfl := List.mem_singleton.1 hu; exact hs
theorem sat_against : Sat T pAgainst (fun ag => ∀ s ∈ ag, NameFrom T s) := by
  rw [against_eq]
  refine sat_if (sat_bind sat_name ends_name fun s hs => ?_) (sat_pure (fun s h => by cases h))
  intro l x r hl h
  exact sat_more l.length [s] (fun u hu => by obtain rfl := List.mem_singleton.1 hu; exact hs) l x r hl h
theorem sat_else : Sat T pElse (fun n => n = 0 ∨ n = 1 ∨ n = 2) :=
  sat_if (sat_if (sat_pure (.inr (.inl rfl))) (sat_bind (sat_want _) (ends_want _) fun _ _ => sat_pure (.inr (.inr rfl)))) (sat_pure (.inl rfl))
/-- where an order's values come from -/
structure From (T : Tok → Prop) (x : WishD) : Prop where
  name : NameFrom T x.name
  frm : NameFrom T x.frm
  to_ : NameFrom T x.to
  cls : NameFrom T x.cls
  after : NumFrom T clockM x.after
  by_ : NumFrom T clockM x.by_
  crowd : NumFrom T crowdM x.crowd
  pay : NumFrom T payM x.pay
  against : ∀ s ∈ x.against, NameFrom T s
  els : x.els = 0 ∨ x.els = 1 ∨ x.els = 2
theorem sat_body : Sat T pBody (From T) :=
  sat_bind (sat_wn _) (ends_wn _) fun a ha => sat_bind (sat_wn _) (ends_wn _) fun b hb => sat_bind (sat_wn _) (ends_wn _) fun c hc => sat_bind (sat_wn _) (ends_wn _) fun d hd =>
  sat_bind (sat_wm _ _) (ends_wm _ _) fun i hi => sat_bind (sat_wm _ _) (ends_wm _ _) fun j hj => sat_bind (sat_wm _ _) (ends_wm _ _) fun k hk =>
  sat_bind sat_against ends_against fun ag hag => sat_bind (sat_wm _ _) (ends_wm _ _) fun p hp => sat_bind (P := fun _ => True) (fun _ _ _ _ _ => trivial) ends_back fun bk _ => sat_bind sat_else ends_else fun el hel =>
  sat_pure ⟨ha, hb, hc, hd, hi, hj, hk, hp, hag, hel⟩
theorem sat_order : Sat T pOrder (From T) := sat_bind sat_body ends_body fun x hx => sat_bind (sat_want _) (ends_want _) fun _ _ => sat_pure hx
theorem read_from : ∀ (n : Nat) (l : List Tok) (xs : List WishD), l.length ≤ n → (∀ t ∈ l, T t) → pRead l = .ok xs → ∀ x ∈ xs, From T x
  | _, [], xs, _, _, h => by cases h; intro x hx; cases hx
  | 0, t :: u, xs, hn, _, h => by simp at hn
  | n + 1, t :: u, xs, hn, hl, h => by
    rw [read_cons (by simp)] at h
    cases e : pOrder (t :: u) with
    | error s => rw [e] at h; cases h
    | ok v =>
      obtain ⟨x, r⟩ := v
      rw [e] at h
      simp only at h
      obtain ⟨t', u', he, hsf⟩ := order_some e
      injection he with _ he
      subst he
      have hlen := hsf.length_le
      simp only [List.length_cons] at hn
      cases e2 : pRead r with
      | error s => rw [e2] at h; cases h
      | ok ys =>
        rw [e2] at h
        cases h
        intro y hy
        rcases List.mem_cons.1 hy with rfl | hy
        · exact sat_order _ _ _ hl e
        · exact read_from n r ys (by omega) (fun t ht => hl t (List.mem_cons_of_mem _ (hsf.subset ht))) e2 y hy
end

/-! ### tokens of orders are read again -/
/-- an order that can be printed -/
structure Fine (x : WishD) : Prop where
  name : okName (nmT x.name) = true
  frm : okName (nmT x.frm) = true
  to_ : okName (nmT x.to) = true
  cls : okName (nmT x.cls) = true
  after : okNum clockM (nuT x.after) = true
  by_ : okNum clockM (nuT x.by_) = true
  crowd : okNum crowdM (nuT x.crowd) = true
  pay : okNum payM (nuT x.pay) = true
  against : ∀ s ∈ x.against, okName (nmT s) = true
  els : x.els = 0 ∨ x.els = 1 ∨ x.els = 2
theorem wn_read {s n : Str} {r : List Tok} (h : okName (nmT n) = true) : pWN s (nmT s :: nmT n :: r) = .ok (n, r) := by
  unfold pWN pBind pWant
  rw [take_cons, if_pos (by simp [isT, nmT])]
  simp only
  rw [name_cons, if_pos h]
  rfl
theorem wm_read {s : Str} {m n : Int} {r : List Tok} (h : okNum m (nuT n) = true) : pWM s m (nmT s :: nuT n :: r) = .ok (n, r) := by
  unfold pWM pBind pWant
  rw [take_cons, if_pos (by simp [isT, nmT])]
  simp only
  rw [num_cons, if_pos h]
  rfl
theorem more_read : ∀ (ag acc : List Str) (f : Nat) (n : Int) (r : List Tok), ag.length ≤ f → (∀ s ∈ ag, okName (nmT s) = true) →
    pMore f acc (ag.flatMap (fun x => [sgT sComma, nmT x]) ++ nmT wPay :: nuT n :: r) = .ok (acc ++ ag, nmT wPay :: nuT n :: r)
  | [], acc, 0, n, r, _, _ => by simp [pMore]
  | [], acc, f + 1, n, r, _, _ => by
    rw [more_succ]
    have : pTake sComma (nmT wPay :: nuT n :: r) = none := by rw [take_cons, if_neg (by simp [isT, nmT, wPay, sComma])]
    simp [this]
  | s :: ag, acc, 0, n, r, h, _ => by simp at h
  | s :: ag, acc, f + 1, n, r, h, hs => by
    rw [more_succ]
    simp only [List.flatMap_cons, List.cons_append, List.nil_append]
    rw [take_cons, if_pos (by simp [isT, sgT])]
    simp only
    rw [name_cons, if_pos (hs s (List.mem_cons_self ..))]
    simp only
    have ih := more_read ag (acc ++ [s]) f n r (by simpa using h) (fun u hu => hs u (List.mem_cons_of_mem _ hu))
    rw [show (nmT s).text = s from rfl, ih]
    simp
theorem against_read {ag : List Str} {n : Int} {r : List Tok} (h : ∀ s ∈ ag, okName (nmT s) = true) : pAgainst (agT ag ++ nmT wPay :: nuT n :: r) = .ok (ag, nmT wPay :: nuT n :: r) := by
  cases ag with
  | nil =>
    rw [against_eq]
    unfold pIf
    have : pTake wAgainst (agT [] ++ nmT wPay :: nuT n :: r) = none := by
      show pTake wAgainst (nmT wPay :: nuT n :: r) = none
      rw [take_cons, if_neg (by simp [isT, nmT, wPay, wAgainst])]
    rw [this]
    rfl
  | cons s ag =>
    rw [against_eq]
    unfold pIf
    simp only [agT, List.cons_append]
    rw [take_cons, if_pos (by simp [isT, nmT])]
    simp only
    unfold pBind
    rw [name_cons, if_pos (h s (List.mem_cons_self ..))]
    simp only
    unfold pMoreA
    rw [show (nmT s).text = s from rfl]
    rw [more_read ag [s] _ n r (by
      rw [List.length_append]
      have : (ag.flatMap (fun x => [sgT sComma, nmT x])).length = 2 * ag.length := by
        induction ag with
        | nil => rfl
        | cons a b ih => simp only [List.flatMap_cons, List.length_append, List.length_cons, List.length_nil, ih (fun u hu => h u (by
            rcases List.mem_cons.1 hu with rfl | hu
            · exact List.mem_cons_self ..
            · exact List.mem_cons_of_mem _ (List.mem_cons_of_mem _ hu)))]; omega
      omega) (fun u hu => h u (List.mem_cons_of_mem _ hu))]
    rfl
theorem back_read {b : Bool} {e : Int} {r : List Tok} : pBack ((if b then [nmT wBack] else []) ++ (elT e ++ (sgT sSemi :: r))) = .ok (b, elT e ++ (sgT sSemi :: r)) := by
  unfold pBack pIf
  cases b with
  | true =>
    simp only [if_true, List.cons_append, List.nil_append]
    rw [take_cons, if_pos (by simp [isT, nmT])]
    rfl
  | false =>
    have : pTake wBack (elT e ++ (sgT sSemi :: r)) = none := by
      unfold elT
      split
      · simp only [List.cons_append]; rw [take_cons, if_neg (by simp [isT, nmT, wElse, wBack])]
      · split
        · simp only [List.cons_append]; rw [take_cons, if_neg (by simp [isT, nmT, wElse, wBack])]
        · simp only [List.nil_append]; rw [take_cons, if_neg (by simp [isT, sgT, sSemi, wBack])]
    simp only [Bool.false_eq_true, if_false, List.nil_append]
    rw [this]
    rfl
theorem else_read {e : Int} {r : List Tok} (h : e = 0 ∨ e = 1 ∨ e = 2) : pElse (elT e ++ (sgT sSemi :: r)) = .ok (e, sgT sSemi :: r) := by
  unfold pElse
  rcases h with rfl | rfl | rfl
  · have : elT 0 ++ (sgT sSemi :: r) = sgT sSemi :: r := rfl
    rw [this]
    unfold pIf
    rw [take_cons, if_neg (by simp [isT, sgT, sSemi, wElse])]
    rfl
  · have : elT 1 ++ (sgT sSemi :: r) = nmT wElse :: nmT wHold :: sgT sSemi :: r := rfl
    rw [this]
    unfold pIf
    rw [take_cons, if_pos (by simp [isT, nmT])]
    simp only
    rw [take_cons, if_pos (by simp [isT, nmT])]
    rfl
  · have : elT 2 ++ (sgT sSemi :: r) = nmT wElse :: nmT wForward :: sgT sSemi :: r := rfl
    rw [this]
    unfold pIf
    rw [take_cons, if_pos (by simp [isT, nmT])]
    simp only
    rw [take_cons, if_neg (by simp [isT, nmT, wHold, wForward])]
    simp only
    unfold pBind pWant
    rw [take_cons, if_pos (by simp [isT, nmT])]
    rfl
theorem order_read {x : WishD} (h : Fine x) (r : List Tok) : pOrder (ordT x ++ r) = .ok (x, r) := by
  have e : ordT x ++ r = nmT wLetter :: nmT x.name :: nmT wFrom :: nmT x.frm :: nmT wTo :: nmT x.to :: nmT wClass :: nmT x.cls :: nmT wAfter :: nuT x.after :: nmT wBy :: nuT x.by_ :: nmT wCrowd :: nuT x.crowd ::
      (agT x.against ++ nmT wPay :: nuT x.pay :: ((if x.back then [nmT wBack] else []) ++ (elT x.els ++ (sgT sSemi :: r)))) := by
    unfold ordT
    simp
  rw [e]
  have hb : pBody (nmT wLetter :: nmT x.name :: nmT wFrom :: nmT x.frm :: nmT wTo :: nmT x.to :: nmT wClass :: nmT x.cls :: nmT wAfter :: nuT x.after :: nmT wBy :: nuT x.by_ :: nmT wCrowd :: nuT x.crowd ::
      (agT x.against ++ nmT wPay :: nuT x.pay :: ((if x.back then [nmT wBack] else []) ++ (elT x.els ++ (sgT sSemi :: r))))) = .ok (x, sgT sSemi :: r) := by
    unfold pBody
    unfold pBind
    rw [wn_read h.name]
    simp only
    rw [wn_read h.frm]
    simp only
    rw [wn_read h.to_]
    simp only
    rw [wn_read h.cls]
    simp only
    rw [wm_read h.after]
    simp only
    rw [wm_read h.by_]
    simp only
    rw [wm_read h.crowd]
    simp only
    rw [against_read h.against]
    simp only
    rw [wm_read h.pay]
    simp only
    rw [back_read]
    simp only
    rw [else_read h.els]
    rfl
  unfold pOrder pBind
  rw [hb]
  simp only
  unfold pWant
  rw [take_cons, if_pos (by simp [isT, sgT])]
  rfl
theorem ordT_ne (x : WishD) (r : List Tok) : ordT x ++ r ≠ [] := by unfold ordT; simp
theorem orders_read : ∀ (l : List WishD), (∀ x ∈ l, Fine x) → pRead (ordsT l) = .ok l
  | [], _ => rfl
  | x :: l, h => by
    unfold ordsT
    rw [List.flatMap_cons, read_cons (ordT_ne _ _), order_read (h x (List.mem_cons_self ..))]
    simp only
    have ih := orders_read l (fun y hy => h y (List.mem_cons_of_mem _ hy))
    unfold ordsT at ih
    rw [ih]
/-- what was read from valid tokens can be printed -/
theorem fine_from {x : WishD} (h : From (fun t => validB t = true) x) : Fine x := by
  have hn : ∀ {s : Str}, NameFrom (fun t => validB t = true) s → okName (nmT s) = true := by
    rintro s ⟨t, _, h2, rfl⟩
    unfold okName nmT at *
    simp only [Bool.and_eq_true] at h2 ⊢
    exact ⟨rfl, h2.2⟩
  have hm : ∀ {m n : Int}, NumFrom (fun t => validB t = true) m n → okNum m (nuT n) = true := by
    rintro m n ⟨t, _, h2, rfl⟩
    unfold okNum nuT at *
    simp only [Bool.and_eq_true] at h2 ⊢
    exact ⟨rfl, h2.2⟩
  exact ⟨hn h.name, hn h.frm, hn h.to_, hn h.cls, hm h.after, hm h.by_, hm h.crowd, hm h.pay, fun s hs => hn (h.against s hs), h.els⟩
end Go.Proofs.YtfnmidddgjlipaaDoor
