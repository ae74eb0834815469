/-
  Layer 3 (lex), plain laws: a token's text is read back; two sources; places of errors; names.
-/
import Derived.Test.YtfnmidddgjlipaaGreatDoorLx0
set_option linter.unusedVariables false
set_option linter.unusedSimpArgs false
namespace Go.Proofs.YtfnmidddgjlipaaGreatDoor
open Go.Lib (decDigits itoa)

theorem spc_cases {c : UInt8} (h : isSpc c = true) : c.toNat = 32 ∨ c.toNat = 9 ∨ c.toNat = 10 ∨ c.toNat = 13 := by
  unfold isSpc at h; simp at h; omega
theorem spc_not {c : UInt8} (h : isSpc c = true) : isLet c = false ∧ isDig c = false ∧ isPart c = false := by
  have h' := spc_cases h
  unfold isPart isLet isDig
  simp
  omega
theorem let_part {c : UInt8} (h : isLet c = true) : isPart c = true := by unfold isPart; simp [h]
theorem dig_part {c : UInt8} (h : isDig c = true) : isPart c = true := by unfold isPart; simp [h]
theorem part_spc {c : UInt8} (h : isPart c = true) : isSpc c = false := by
  cases hs : isSpc c with
  | false => rfl
  | true => rw [(spc_not hs).2.2] at h; cases h
theorem dig_let {c : UInt8} (h : isDig c = true) : isLet c = false := by
  unfold isDig at h; unfold isLet; simp at *; omega
theorem sgn_mem {c : UInt8} (h : isSgn c = true) : c ∈ signL := by unfold isSgn at h; simpa using h
theorem sgn_class {c : UInt8} (h : isSgn c = true) : isSpc c = false ∧ isLet c = false ∧ isDig c = false ∧ isPart c = false := by
  have := sgn_mem h
  unfold signL at this
  simp only [List.mem_cons, List.not_mem_nil, or_false] at this
  rcases this with rfl | rfl | rfl | rfl | rfl | rfl | rfl | rfl | rfl | rfl | rfl | rfl | rfl | rfl | rfl | rfl <;> exact ⟨rfl, rfl, rfl, rfl⟩
theorem part_slash {c : UInt8} (h : isPart c = true) : (c == 47) = false := by
  cases hc : (c == 47) with
  | false => rfl
  | true =>
    obtain rfl : c = 47 := by simpa using hc
    cases h

/-! ### numerals -/
theorem valOf_snoc (l : List UInt8) (c : UInt8) : valOf (l ++ [c]) = 10 * valOf l + (c.toNat - 48) := by unfold valOf; rw [List.foldl_append]; rfl
theorem dig_of {d : Nat} (h : d < 10) : isDig (UInt8.ofNat (48 + d)) = true ∧ (UInt8.ofNat (48 + d)).toNat = 48 + d := by
  have : (UInt8.ofNat (48 + d)).toNat = 48 + d := by simp; omega
  exact ⟨by unfold isDig; rw [this]; simp; omega, this⟩
theorem dec_digs (u : Nat) : ∀ c ∈ decDigits u, isDig c = true := by
  induction u using Nat.strongRecOn with
  | _ u ih =>
    intro c hc
    rw [decDigits] at hc
    by_cases h : u < 10
    · rw [dif_pos h] at hc
      obtain rfl := List.mem_singleton.1 hc
      exact (dig_of h).1
    · rw [dif_neg h] at hc
      rcases List.mem_append.1 hc with hc | hc
      · exact ih (u / 10) (by omega) c hc
      · obtain rfl := List.mem_singleton.1 hc
        exact (dig_of (by omega)).1
theorem dec_ne (u : Nat) : decDigits u ≠ [] := by
  rw [decDigits]; split <;> simp
theorem dec_val (u : Nat) : valOf (decDigits u) = u := by
  induction u using Nat.strongRecOn with
  | _ u ih =>
    rw [decDigits]
    by_cases h : u < 10
    · rw [dif_pos h]
      have := (dig_of h).2
      unfold valOf
      simp only [List.foldl_cons, List.foldl_nil, this]
      omega
    · rw [dif_neg h, valOf_snoc, ih (u / 10) (by omega), (dig_of (by omega : u % 10 < 10)).2]
      omega
theorem dec_head (u : Nat) (h1 : 1 ≤ u) : (decDigits u).head? ≠ some 48 := by
  induction u using Nat.strongRecOn with
  | _ u ih =>
    rw [decDigits]
    by_cases h : u < 10
    · rw [dif_pos h]
      intro e
      have e' : UInt8.ofNat (48 + u) = 48 := by simpa using e
      have := (dig_of h).2
      rw [e'] at this
      have h48 : (48 : UInt8).toNat = 48 := rfl
      omega
    · rw [dif_neg h]
      have hd := ih (u / 10) (by omega) (by omega)
      cases hl : decDigits (u / 10) with
      | nil => exact absurd hl (dec_ne _)
      | cons c r => rw [hl] at hd; simpa using hd
theorem dec_len1 {u : Nat} (h : u < 10) : (decDigits u).length = 1 := by rw [decDigits, dif_pos h]; rfl
theorem dec_canon (u : Nat) : ((decDigits u).length == 1 || (decDigits u).head? != some 48) = true := by
  by_cases h : u < 10
  · simp [dec_len1 h]
  · have := dec_head u (by omega)
    simp [this]
theorem val_pos {l : List UInt8} (hd : ∀ c ∈ l, isDig c = true) (hne : l ≠ []) (hh : l.head? ≠ some 48) : 1 ≤ valOf l := by
  have key : ∀ (r : List UInt8) (a : Nat), 1 ≤ a → 1 ≤ r.foldl (fun a c => 10 * a + (c.toNat - 48)) a := by
    intro r
    induction r with
    | nil => intro a h; exact h
    | cons c r ih =>
      intro a h
      simp only [List.foldl_cons]
      exact ih (10 * a + (c.toNat - 48)) (by omega)
  match l, hne with
  | c :: r, _ =>
    unfold valOf
    simp only [List.foldl_cons]
    have h1 : 48 ≤ c.toNat ∧ c.toNat ≤ 57 := by have h1 := hd c (by simp); unfold isDig at h1; simpa using h1
    have : c.toNat ≠ 48 := fun e => hh (by rw [List.head?_cons, UInt8.toNat.inj (show c.toNat = (48 : UInt8).toNat by rw [e]; rfl)])
    exact key r _ (by omega)
theorem snoc_of {α : Type} {l : List α} (h : l ≠ []) : ∃ (r : List α) (c : α), l = r ++ [c] := ⟨l.dropLast, l.getLast h, (List.dropLast_concat_getLast h).symm⟩
theorem dec_of_val : ∀ (n : Nat) (l : List UInt8), l.length = n → (∀ c ∈ l, isDig c = true) → l ≠ [] → (l.length == 1 || l.head? != some 48) = true → decDigits (valOf l) = l := by
  intro n
  induction n with
  | zero => intro l hl _ hne; exact absurd (List.length_eq_zero_iff.1 hl) hne
  | succ n ih =>
    intro l hl hd hne hc
    obtain ⟨r, c, rfl⟩ := snoc_of hne
    have hcd := hd c (by simp)
    have hcn : 48 ≤ c.toNat ∧ c.toNat ≤ 57 := by unfold isDig at hcd; simpa using hcd
    rw [valOf_snoc]
    have hof : UInt8.ofNat (48 + (c.toNat - 48)) = c := by
      rw [show 48 + (c.toNat - 48) = c.toNat by omega]
      exact UInt8.ofNat_toNat
    by_cases hr : r = []
    · subst hr
      have h0 : valOf [] = 0 := rfl
      rw [h0, decDigits, dif_pos (by omega), show 10 * 0 + (c.toNat - 48) = c.toNat - 48 by omega, hof]
      rfl
    · have hrl : r.length = n := by simp at hl; omega
      have hpos : 1 ≤ r.length := List.length_pos_iff.2 hr
      have hh : r.head? ≠ some 48 := by
        intro e
        have e2 : (r ++ [c]).head? = some 48 := by
          match r, hr with
          | a :: b, _ => simpa using e
        rw [e2] at hc
        have hlen : ((r ++ [c]).length == 1) = false := by simp; omega
        rw [hlen] at hc
        cases hc
      have hv := val_pos (fun x hx => hd x (by simp [hx])) hr hh
      rw [decDigits, dif_neg (by omega), show (10 * valOf r + (c.toNat - 48)) / 10 = valOf r by omega, show (10 * valOf r + (c.toNat - 48)) % 10 = c.toNat - 48 by omega, hof]
      rw [ih r hrl (fun x hx => hd x (by simp [hx])) hr (by simp [hh])]
theorem dec_eq_iff {l : List UInt8} (hd : ∀ c ∈ l, isDig c = true) (hne : l ≠ []) : (decDigits (valOf l) = l) ↔ (l.length == 1 || l.head? != some 48) = true := by
  constructor
  · intro e; have := dec_canon (valOf l); rw [e] at this; exact this
  · exact dec_of_val _ l rfl hd hne
theorem itoa_nat {n : Int} (h : 0 ≤ n) : itoa n = decDigits n.toNat := by unfold itoa; rw [if_neg (by omega)]

/-! ### a token's text, read back -/
def stopB (r : List UInt8) : Bool := match r with | [] => true | c :: _ => isSpc c
theorem tw_stop {p : UInt8 → Bool} {a r : List UInt8} (ha : ∀ c ∈ a, p c = true) (hr : ∀ c s, r = c :: s → p c = false) : (a ++ r).takeWhile p = a := by
  rw [List.takeWhile_append_of_pos ha]
  match r with
  | [] => simp
  | c :: s => rw [List.takeWhile_cons, if_neg (by rw [hr c s rfl]; simp)]; simp
theorem stop_part {r : List UInt8} (h : stopB r = true) : ∀ c s, r = c :: s → isPart c = false ∧ isDig c = false := by
  rintro c s rfl
  have := spc_not (c := c) h
  exact ⟨this.2.2, this.2.1⟩
theorem name_ne {l : List UInt8} (h : nameB l = true) : ∃ c r, l = c :: r ∧ isLet c = true ∧ ∀ x ∈ l, isPart x = true := by
  match l, h with
  | c :: r, h =>
    simp only [nameB, Bool.and_eq_true, List.all_eq_true] at h
    exact ⟨c, r, rfl, h.1.2, h.2⟩
theorem valid_name {t : Tok} (h : validB t = true) (hk : t.kind = 1) : nameB t.text = true ∧ t.n = 0 := by
  unfold validB at h; simpa [hk] using h
theorem valid_num {t : Tok} (h : validB t = true) (hk : t.kind = 2) : t.text = [] ∧ 0 ≤ t.n ∧ t.n ≤ 1099511627776 := by
  unfold validB at h; simp [hk] at h; exact ⟨h.1.1, h.1.2, h.2⟩
theorem valid_sgn {t : Tok} (h : validB t = true) (hk : t.kind = 3) : ∃ c, t.text = [c] ∧ isSgn c = true ∧ t.n = 0 := by
  obtain ⟨k, x, n, p⟩ := t
  subst hk
  match x, h with
  | [], h => simp [validB] at h
  | [c], h => simp [validB] at h; exact ⟨c, rfl, h⟩
  | a :: b :: r, h => simp [validB] at h
theorem valid_kind {t : Tok} (h : validB t = true) : t.kind = 1 ∨ t.kind = 2 ∨ t.kind = 3 := by
  unfold validB at h
  by_cases h1 : t.kind = 1
  · exact .inl h1
  · by_cases h2 : t.kind = 2
    · exact .inr (.inl h2)
    · by_cases h3 : t.kind = 3
      · exact .inr (.inr h3)
      · simp [h1, h2, h3] at h

theorem step_txt {t : Tok} {r : List UInt8} (hv : validB t = true) (hr : stopB r = true) : stepL (txt t ++ r) = some ((txt t).length, some { t with pos := 0 }) := by
  have hs := stop_part hr
  obtain ⟨k, x, n, p⟩ := t
  rcases valid_kind hv with hk | hk | hk
  · obtain ⟨h1, h2⟩ := valid_name hv hk
    simp only at hk h1 h2
    subst hk h2
    obtain ⟨c, q, rfl, hc, hall⟩ := name_ne h1
    have e := tw_stop (p := isPart) hall (fun c s e => (hs c s e).1)
    have hp := let_part hc
    show stepL (c :: (q ++ r)) = _
    rw [show c :: q ++ r = c :: (q ++ r) from rfl] at e
    simp only [stepL, part_spc hp, part_slash hp, hc, e, h1, txt]
    simp
  · obtain ⟨h1, h2, h3⟩ := valid_num hv hk
    simp only at hk h1 h2 h3
    subst hk h1
    have ht : txt ⟨2, [], n, p⟩ = decDigits n.toNat := by simp [txt, itoa_nat h2]
    rw [ht]
    have hall := dec_digs n.toNat
    have hcan := dec_canon n.toNat
    have hval := dec_val n.toNat
    have hne := dec_ne n.toNat
    generalize decDigits n.toNat = l at *
    match l, hne with
    | c :: q, _ =>
      have hc := hall c (by simp)
      have hp := dig_part hc
      have e := tw_stop (p := isDig) hall (fun c s e => (hs c s e).2)
      rw [show c :: q ++ r = c :: (q ++ r) from rfl] at e ⊢
      have hnum : numB (c :: q) = true := by
        unfold numB
        rw [hcan, hval]
        simp
        omega
      simp only [stepL, part_spc hp, part_slash hp, dig_let hc, hc, e, hnum, hval]
      simp
      omega
  · obtain ⟨c, h1, h2, h3⟩ := valid_sgn hv hk
    simp only at hk h1 h3
    subst hk h1 h3
    obtain ⟨g1, g2, g3, _⟩ := sgn_class h2
    have hcom : (c == 47 && r.head? == some 47) = false := by
      match r, hr with
      | [], _ => simp
      | d :: s, hr =>
        have hd : isSpc d = true := hr
        have : d ≠ 47 := fun e => by subst e; cases hd
        simp [this]
    show stepL (c :: r) = _
    simp only [stepL, g1, hcom, g2, g3, h2, txt]
    simp
theorem lexA_tok {t : Tok} {r : List UInt8} (hv : validB t = true) (hr : stopB r = true) (at_ : Nat) :
    lexA (txt t ++ r) at_ = ({ t with pos := at_ } :: (lexA r (at_ + (txt t).length)).1, (lexA r (at_ + (txt t).length)).2) := by
  rw [lexA_step (step_txt hv hr)]
  simp [addTok]

/-! ### lists of tokens, apart from their places -/
def erase (t : Tok) : Tok := { t with pos := 0 }
def sameT (a b : List Tok) : Bool := a.map erase == b.map erase
theorem sameT_iff {a b : List Tok} : sameT a b = true ↔ a.map erase = b.map erase := by unfold sameT; simp
theorem sameT_refl (a : List Tok) : sameT a a = true := sameT_iff.2 rfl

/-- a list of words with a space between -/
def joinW : List (List UInt8) → List UInt8
  | [] => []
  | [x] => x
  | x :: y :: r => x ++ 32 :: joinW (y :: r)
def textL (l : List Tok) : List UInt8 := if l.all validB then joinW (l.map txt) else []
def textE (l : List Tok) : Int := if l.all validB then 0 else 30

theorem lexA_joinW : ∀ (l : List Tok) (at_ : Nat), (∀ t ∈ l, validB t = true) → (lexA (joinW (l.map txt)) at_).1.map erase = l.map erase ∧ (lexA (joinW (l.map txt)) at_).2 = none
  | [], at_, _ => ⟨rfl, rfl⟩
  | [t], at_, h => by
    have := lexA_tok (t := t) (r := []) (h t (by simp)) rfl at_
    simp only [List.append_nil] at this
    simp only [List.map_cons, List.map_nil, joinW, this, lexA_nil]
    exact ⟨rfl, trivial⟩
  | t :: u :: r, at_, h => by
    have ht := lexA_tok (t := t) (r := 32 :: joinW ((u :: r).map txt)) (h t (by simp)) rfl at_
    have hs := lexA_spc (c := 32) (r := joinW ((u :: r).map txt)) (at_ := at_ + (txt t).length) rfl
    obtain ⟨i1, i2⟩ := lexA_joinW (u :: r) (at_ + (txt t).length + 1) (fun x hx => h x (by simp at hx ⊢; right; exact hx))
    simp only [List.map_cons, joinW] at ht hs i1 i2 ⊢
    rw [ht, hs]
    simp only [List.map_cons, i1, i2]
    exact ⟨rfl, trivial⟩

/-! ### a source and what follows it -/
theorem tw_ext {p : UInt8 → Bool} {d : UInt8} (hd : p d = false) : ∀ (l b : List UInt8), (l ++ d :: b).takeWhile p = l.takeWhile p
  | [], b => by simp [List.takeWhile_cons, hd]
  | c :: l, b => by
    simp only [List.cons_append, List.takeWhile_cons]
    rw [tw_ext hd l b]
theorem step_ext {l : List UInt8} (hl : l ≠ []) {d : UInt8} (hd : isSpc d = true) (b : List UInt8) (hc : d = 10 ∨ ∀ r, l = 47 :: 47 :: r → (10 : UInt8) ∈ l) : stepL (l ++ d :: b) = stepL l := by
  obtain ⟨n1, n2, n3⟩ := spc_not hd
  match l, hl with
  | c :: r, _ =>
    have e1 := tw_ext (p := isPart) n3 (c :: r) b
    have e2 := tw_ext (p := isDig) n2 (c :: r) b
    rw [List.cons_append] at e1 e2 ⊢
    have hh : ((r ++ d :: b).head? == some 47) = (r.head? == some 47) := by
      match r with
      | [] =>
        have : d ≠ 47 := fun e => by subst e; cases hd
        simp [this]
      | a :: s => rfl
    have h3 : (c == 47 && r.head? == some 47) = true → comLen (c :: (r ++ d :: b)) = comLen (c :: r) := by
      intro h
      simp only [Bool.and_eq_true, beq_iff_eq] at h
      obtain ⟨rfl, h⟩ := h
      unfold comLen
      rcases hc with rfl | hc
      · have := tw_ext (p := fun c : UInt8 => c != 10) (d := 10) (by decide) (47 :: r) b
        rw [List.cons_append] at this
        rw [this]
      · match r, h with
        | a :: s, h =>
          obtain rfl : a = 47 := by simpa using h
          have hm := hc s rfl
          have key : ∀ (q : List UInt8), (10 : UInt8) ∈ q → ∀ z, (q ++ z).takeWhile (fun c => c != 10) = q.takeWhile (fun c => c != 10) := by
            intro q
            induction q with
            | nil => intro h; cases h
            | cons x q ih =>
              intro hx z
              by_cases hx1 : x = 10
              · subst hx1; simp [List.takeWhile_cons]
              · have : (10 : UInt8) ∈ q := by
                  rcases List.mem_cons.1 hx with e | e
                  · exact absurd e.symm hx1
                  · exact e
                simp only [List.cons_append, List.takeWhile_cons]
                rw [ih this z]
          have := key _ hm (d :: b)
          rw [List.cons_append] at this
          rw [this]
    simp only [stepL, e1, e2, hh]
    by_cases hk : (c == 47 && r.head? == some 47) = true
    · rw [h3 hk]
    · simp [hk]
theorem lexA_nil_at (at_ : Nat) : (lexA [] at_).2 = none := rfl
theorem lexA_join (b : List UInt8) (a : List UInt8) : ∀ at_, lexA (a ++ 10 :: b) at_ = match (lexA a at_).2 with
    | none => ((lexA a at_).1 ++ (lexA b (at_ + a.length + 1)).1, (lexA b (at_ + a.length + 1)).2)
    | some i => ((lexA a at_).1, some i) := by
  refine lex_induct (P := fun a => ∀ at_, lexA (a ++ 10 :: b) at_ = match (lexA a at_).2 with
    | none => ((lexA a at_).1 ++ (lexA b (at_ + a.length + 1)).1, (lexA b (at_ + a.length + 1)).2)
    | some i => ((lexA a at_).1, some i)) ?_ ?_ ?_ a
  · intro at_
    rw [List.nil_append, lexA_spc rfl, lexA_nil]
    rfl
  · intro l hl hs at_
    have e := step_ext hl (d := 10) rfl b (.inl rfl)
    rw [lexA_bad (by simp) (e.trans hs), lexA_bad hl hs]
  · intro l k o hs ih at_
    have hp := step_pos hs
    have hl : l ≠ [] := by intro e; subst e; simp at hp; omega
    have e := step_ext hl (d := 10) rfl b (.inl rfl)
    rw [lexA_step (e.trans hs), lexA_step hs, List.drop_append_of_le_length hp.2, ih (at_ + k)]
    have hlen : at_ + k + (l.drop k).length + 1 = at_ + l.length + 1 := by simp; omega
    rw [hlen]
    cases h2 : (lexA (l.drop k) (at_ + k)).2 with
    | none => cases o <;> simp [addTok, h2]
    | some i => cases o <;> simp [addTok, h2]
/-- an error remains whatever follows it after a space -/
theorem lexA_more (b : List UInt8) {d : UInt8} (hd : isSpc d = true) (a : List UInt8) : ∀ at_ i, (lexA a at_).2 = some i → (lexA (a ++ d :: b) at_).2 = some i := by
  refine lex_induct (P := fun a => ∀ at_ i, (lexA a at_).2 = some i → (lexA (a ++ d :: b) at_).2 = some i) ?_ ?_ ?_ a
  · intro at_ i h; rw [lexA_nil] at h; cases h
  · intro l hl hs at_ i h
    rw [lexA_bad hl hs] at h
    have e := step_ext hl hd b (by
      right
      rintro r rfl
      exfalso
      simp [stepL, isSpc] at hs)
    rw [lexA_bad (by simp) (e.trans hs)]
    exact h
  · intro l k o hs ih at_ i h
    have hp := step_pos hs
    have hl : l ≠ [] := by intro e; subst e; simp at hp; omega
    rw [lexA_step hs, addTok_fst] at h
    have e := step_ext hl hd b (by
      right
      rintro r rfl
      by_cases hm : (10 : UInt8) ∈ 47 :: 47 :: r
      · exact hm
      · exfalso
        have hk : k = (47 :: 47 :: r).length := by
          simp [stepL, isSpc] at hs
          rw [← hs.1]
          unfold comLen
          have := tw_stop (p := fun c : UInt8 => c != 10) (a := 47 :: 47 :: r) (r := []) (fun x hx => by
            simp
            intro e
            subst e
            exact hm hx) (fun c s e => by cases e)
          rw [List.append_nil] at this
          rw [this]
        rw [hk, List.drop_length, lexA_nil] at h
        cases h)
    rw [lexA_step (e.trans hs), addTok_fst, List.drop_append_of_le_length hp.2]
    exact ih _ _ h

theorem tw_take {p : UInt8 → Bool} : ∀ (l : List UInt8) (m : Nat), (l.takeWhile p).length ≤ m → (l.take m).takeWhile p = l.takeWhile p
  | [], m, _ => by simp
  | c :: l, 0, h => by
    by_cases hc : p c = true
    · simp [List.takeWhile_cons, hc] at h
    · simp [List.takeWhile_cons, hc]
  | c :: l, m + 1, h => by
    by_cases hc : p c = true
    · simp only [List.takeWhile_cons, hc, if_true, List.length_cons, List.take_succ_cons] at h ⊢
      rw [tw_take l m (by omega)]
    · simp [List.takeWhile_cons, hc]
theorem step_take {l : List UInt8} {k m : Nat} {o : Option Tok} (hs : stepL l = some (k, o)) (hm : k ≤ m) : stepL (l.take m) = some (k, o) := by
  have hp := step_pos hs
  match l, hs with
  | c :: r, hs =>
    match m, hm with
    | 0, hm => omega
    | m + 1, hm =>
      rw [List.take_succ_cons]
      have t1 : ∀ p : UInt8 → Bool, ((c :: r).takeWhile p).length ≤ m + 1 → (c :: r.take m).takeWhile p = (c :: r).takeWhile p := fun p h => by
        have := tw_take (p := p) (c :: r) (m + 1) h
        rwa [List.take_succ_cons] at this
      simp only [stepL] at hs ⊢
      by_cases h1 : isSpc c = true
      · simpa [h1] using hs
      · by_cases h2 : (c == 47 && r.head? == some 47) = true
        · have hcl : comLen (c :: r) = k := by simp only [h1, h2, if_true] at hs; simpa using (by simpa using hs : comLen (c :: r) = k ∧ none = o).1
          have h2' := h2
          simp only [Bool.and_eq_true, beq_iff_eq] at h2'
          obtain ⟨rfl, hh⟩ := h2'
          match r, hh with
          | a :: s, hh =>
            obtain rfl : a = 47 := by simpa using hh
            have hk2 : 2 ≤ k := by rw [← hcl]; unfold comLen; simp [List.takeWhile_cons]
            match m, hm with
            | 0, hm => omega
            | m + 1, hm =>
              have := t1 (fun c => c != 10) (by rw [show ((47 :: 47 :: s : List UInt8).takeWhile fun c => c != 10).length = k from hcl]; omega)
              have hcl2 : comLen (47 :: (47 :: s).take (m + 1)) = comLen (47 :: 47 :: s) := by unfold comLen; rw [this]
              rw [hcl2]
              simpa [h1] using hs
        · have h2' : (c == 47 && (r.take m).head? == some 47) = false := by
            cases hc : (c == 47) with
            | false => simp
            | true =>
              simp [hc] at h2
              match r, m with
              | [], _ => simp
              | a :: s, 0 => simp
              | a :: s, m + 1 => simpa using h2
          simp only [h1, h2, h2'] at hs ⊢
          by_cases h3 : isLet c = true
          · simp only [h3, if_true] at hs ⊢
            have hk : ((c :: r).takeWhile isPart).length = k := by
              simp only [Bool.false_eq_true, if_false] at hs
              split at hs
              · simpa using (by simpa using hs : ((c :: r).takeWhile isPart).length = k ∧ _).1
              · cases hs
            rw [t1 isPart (by omega)]
            exact hs
          · simp only [h3] at hs ⊢
            by_cases h4 : isDig c = true
            · simp only [h4, if_true] at hs ⊢
              have hk : ((c :: r).takeWhile isDig).length = k := by
                simp only [Bool.false_eq_true, if_false] at hs
                split at hs
                · simpa using (by simpa using hs : ((c :: r).takeWhile isDig).length = k ∧ _).1
                · cases hs
              rw [t1 isDig (by omega)]
              exact hs
            · simpa [h4] using hs
/-- where an error is -/
theorem lexA_err (l : List UInt8) : ∀ at_ i, (lexA l at_).2 = some i → at_ ≤ i ∧ i < at_ + l.length ∧ (lexA (l.take (i - at_)) at_).2 = none ∧ stepL (l.drop (i - at_)) = none := by
  refine lex_induct (P := fun l => ∀ at_ i, (lexA l at_).2 = some i → at_ ≤ i ∧ i < at_ + l.length ∧ (lexA (l.take (i - at_)) at_).2 = none ∧ stepL (l.drop (i - at_)) = none) ?_ ?_ ?_ l
  · intro at_ i h; rw [lexA_nil] at h; cases h
  · intro l hl hs at_ i h
    rw [lexA_bad hl hs] at h
    obtain rfl : at_ = i := by simpa using h
    have := List.length_pos_iff.2 hl
    refine ⟨Nat.le_refl _, by omega, ?_, ?_⟩
    · simp [lexA_nil]
    · simpa using hs
  · intro l k o hs ih at_ i h
    have hp := step_pos hs
    rw [lexA_step hs, addTok_fst] at h
    obtain ⟨g1, g2, g3, g4⟩ := ih _ _ h
    have hlen : (l.drop k).length = l.length - k := by simp
    refine ⟨by omega, by omega, ?_, ?_⟩
    · rw [lexA_step (step_take hs (by omega : k ≤ i - at_)), addTok_fst]
      rw [List.drop_take, show i - at_ - k = i - (at_ + k) by omega]
      exact g3
    · rw [List.drop_drop, show k + (i - (at_ + k)) = i - at_ by omega] at g4
      exact g4
/-- shifted places -/
def shiftT (d : Nat) (t : Tok) : Tok := { t with pos := t.pos + d }
theorem lexA_shift (d : Nat) (l : List UInt8) : ∀ at_, lexA l (at_ + d) = ((lexA l at_).1.map (shiftT d), (lexA l at_).2.map (· + d)) := by
  refine lex_induct (P := fun l => ∀ at_, lexA l (at_ + d) = ((lexA l at_).1.map (shiftT d), (lexA l at_).2.map (· + d))) ?_ ?_ ?_ l
  · intro at_; rfl
  · intro l hl hs at_; rw [lexA_bad hl hs, lexA_bad hl hs]; rfl
  · intro l k o hs ih at_
    rw [lexA_step hs, lexA_step hs, show at_ + d + k = at_ + k + d by omega, ih (at_ + k)]
    cases o with
    | none => rfl
    | some t => simp [addTok, shiftT]
/-- a name is a single token -/
theorem name_iff {s : List UInt8} : nameB s = true ↔ lexA s 0 = ([⟨1, s, 0, 0⟩], none) := by
  constructor
  · intro h
    have := lexA_tok (t := ⟨1, s, 0, 0⟩) (r := []) (by simp [validB, h]) rfl 0
    simp only [txt, List.append_nil] at this
    simpa [lexA_nil] using this
  · intro h
    have := lexA_valid s 0 ⟨1, s, 0, 0⟩ (by rw [h]; simp)
    exact (valid_name this rfl).1
end Go.Proofs.YtfnmidddgjlipaaGreatDoor
