/-
  SyntaxSpaces holds, and its card: for all arguments the law returns true, and the arguments read as before.
  Conditions: what the row lists of package-level variables; the card ties that to the program's text.
-/
import Derived.Test.YtfnmidddgjlipaaDoorY13
import Derived.Test.YtfnmidddgjlipaaDoorLd
import Derived.Deep.Slices
import Derived.Deep.Strs
import Derived.Lib.SmallJoins
import Derived.Test.YtfnmidddgjlipaaDoorY21
import Derived.Test.YtfnmidddgjlipaaDoorCards
import Derived.Test.YtfnmidddgjlipaaDoorTie
import Derived.SevenTiedAt
/-
  Layer 17, plain: the orders of two sources, one after the other.
-/
set_option linter.unusedVariables false
set_option linter.unusedSimpArgs false
namespace Go.Proofs.YtfnmidddgjlipaaDoor

theorem suffix_drop {α : Type} {r l : List α} (h : r <:+ l) : r = l.drop (l.length - r.length) := by
  obtain ⟨p, rfl⟩ := h
  simp
/-- tokens at other places: the same orders, the same wrong token -/
theorem read_map (g : Tok → Tok) (hg : ∀ t, erase (g t) = erase t) (l : List Tok) : pRead (l.map g) = match pRead l with
    | .error r => .error (r.map g)
    | .ok xs => .ok xs := by
  have h := eras_read (l := l.map g) (l' := l) (by rw [List.map_map]; congr 1; funext t; exact hg t)
  cases e1 : pRead (l.map g) with
  | error r1 =>
    cases e2 : pRead l with
    | error r2 =>
      rw [e1, e2] at h
      have hl : r1.length = r2.length := by have := congrArg List.length (show r1.map erase = r2.map erase from h); simpa using this
      have s1 := suffix_drop (read_end _ _ (Nat.le_refl _) _ e1)
      have s2 := suffix_drop (read_end _ _ (Nat.le_refl _) _ e2)
      simp only
      rw [s1, s2, List.length_map, hl, List.map_drop]
    | ok x2 => rw [e1, e2] at h; exact h.elim
  | ok x1 =>
    cases e2 : pRead l with
    | error r2 => rw [e1, e2] at h; exact h.elim
    | ok x2 => rw [e1, e2] at h; exact congrArg _ h
theorem parL_bad {s : List UInt8} (h : parE s ≠ 0) : parL s = [] := by
  unfold parE at h
  unfold parL
  by_cases h0 : lexE s = 0
  · rw [if_pos h0] at h ⊢
    unfold readE at h
    unfold readL
    cases e : pRead (lexT s) with
    | ok xs => rw [e] at h; exact absurd rfl h
    | error r => rfl
  · rw [if_neg h0]
theorem lex_out {s : List UInt8} (hs : s.length ≤ 65536) : (∃ i, (lexA s 0).2 = some i ∧ lexE s = 30 ∧ lexP s = i ∧ lexT s = []) ∨ ((lexA s 0).2 = none ∧ lexE s = 0 ∧ lexP s = 0 ∧ lexT s = (lexA s 0).1) := by
  have h : ¬ s.length > 65536 := by omega
  unfold lexE lexP lexT
  rw [if_neg h, if_neg h, if_neg h]
  cases e : (lexA s 0).2 with
  | none => right; simp
  | some i => left; exact ⟨i, rfl, by simp, by simp, by simp⟩
theorem joined_law {a b : List UInt8} (ha : a.length ≤ 2000) (hb : b.length ≤ 2000) (he : parE a = 0) :
    (parE b ≠ 0 → parE (a ++ 10 :: b) = parE b ∧ parP (a ++ 10 :: b) = parP b + a.length + 1 ∧ parL (a ++ 10 :: b) = []) ∧
    (parE b = 0 → parE (a ++ 10 :: b) = 0 ∧ parP (a ++ 10 :: b) = 0 ∧ parL (a ++ 10 :: b) = parL a ++ parL b) := by
  have hc : (a ++ 10 :: b).length ≤ 65536 := by simp; omega
  have hla : lexE a = 0 := by
    rcases lex_out (show a.length ≤ 65536 by omega) with ⟨i, h1, h2, h3, h4⟩ | ⟨h1, h2, _⟩
    · unfold parE at he; rw [if_neg (by rw [h2]; decide), h2] at he; cases he
    · exact h2
  obtain ⟨a1, a2, a3, a4⟩ : (lexA a 0).2 = none ∧ lexE a = 0 ∧ lexP a = 0 ∧ lexT a = (lexA a 0).1 := by
    rcases lex_out (show a.length ≤ 65536 by omega) with ⟨i, h1, h2, h3, h4⟩ | h
    · rw [h2] at hla; cases hla
    · exact h
  have hra : ∃ xs, pRead (lexT a) = .ok xs := by
    unfold parE at he
    rw [if_pos hla] at he
    unfold readE at he
    cases e : pRead (lexT a) with
    | ok xs => exact ⟨xs, rfl⟩
    | error r => rw [e] at he; cases he
  obtain ⟨xs, hxs⟩ := hra
  have hj := lexA_join b a 0
  rw [a1] at hj
  simp only at hj
  have hsh := lexA_shift (a.length + 1) b 0
  rw [show 0 + a.length + 1 = 0 + (a.length + 1) by omega, hsh] at hj
  have hLa : parL a = xs := by unfold parL readL; rw [if_pos hla, hxs]
  rcases lex_out (show b.length ≤ 65536 by omega) with ⟨i, b1, b2, b3, b4⟩ | ⟨b1, b2, b3, b4⟩
  · rw [b1] at hj
    simp only [Option.map_some] at hj
    have hpe : parE b = 30 := by unfold parE; rw [if_neg (by rw [b2]; decide), b2]
    have hpp : parP b = i := by unfold parP; rw [if_neg (by rw [b2]; decide), b3]
    rcases lex_out hc with ⟨k, c1, c2, c3, c4⟩ | ⟨c1, _⟩
    · rw [hj] at c1
      simp only [Option.some.injEq] at c1
      refine ⟨fun _ => ⟨?_, ?_, ?_⟩, fun h => by rw [hpe] at h; cases h⟩
      · unfold parE; rw [if_neg (by rw [c2]; decide), c2]; exact hpe.symm
      · unfold parP; rw [if_neg (by rw [c2]; decide), c3]
        unfold parP at hpp
        rw [hpp]
        omega
      · unfold parL; rw [if_neg (by rw [c2]; decide)]
    · rw [hj] at c1; cases c1
  · rw [b1] at hj
    simp only [Option.map_none] at hj
    rcases lex_out hc with ⟨k, c1, _⟩ | ⟨c1, c2, c3, c4⟩
    · rw [hj] at c1; cases c1
    have hT : lexT (a ++ 10 :: b) = lexT a ++ (lexT b).map (shiftT (a.length + 1)) := by rw [c4, hj, a4, b4]
    have hm := read_map (shiftT (a.length + 1)) (fun t => rfl) (lexT b)
    have hr := read_app _ (lexT a) ((lexT b).map (shiftT (a.length + 1))) xs (Nat.le_refl _) hxs
    rw [hm] at hr
    cases eb : pRead (lexT b) with
    | error r =>
      rw [eb] at hr
      simp only at hr
      have hpe : parE b = 170 := by unfold parE readE; rw [if_pos b2, eb]
      have hpp : parP b = placeOf b.length r := by unfold parP readP; rw [if_pos b2, eb]
      refine ⟨fun _ => ⟨?_, ?_, ?_⟩, fun h => by rw [hpe] at h; cases h⟩
      · unfold parE readE; rw [if_pos c2, hT, hr]; exact hpe.symm
      · unfold parP readP; rw [if_pos c2, hT, hr]
        unfold parP readP at hpp
        rw [hpp]
        cases r with
        | nil => simp [placeOf]; omega
        | cons t u => simp [placeOf, shiftT]; omega
      · unfold parL readL; rw [if_pos c2, hT, hr]
    | ok ys =>
      rw [eb] at hr
      simp only at hr
      have hpe : parE b = 0 := by unfold parE readE; rw [if_pos b2, eb]
      have hLb : parL b = ys := by unfold parL readL; rw [if_pos b2, eb]
      refine ⟨fun h => absurd hpe h, fun _ => ⟨?_, ?_, ?_⟩⟩
      · unfold parE readE; rw [if_pos c2, hT, hr]
      · unfold parP readP; rw [if_pos c2, hT, hr]
      · rw [hLa, hLb]; unfold parL readL; rw [if_pos c2, hT, hr]
theorem read_len : ∀ (n : Nat) (l : List Tok) (xs : List WishD), l.length ≤ n → pRead l = .ok xs → xs.length ≤ l.length
  | _, [], xs, _, h => by cases h; simp
  | 0, t :: u, xs, hn, h => by simp at hn
  | n + 1, t :: u, xs, hn, h => by
    rw [read_cons (by simp)] at h
    cases e : pOrder (t :: u) with
    | error s => rw [e] at h; cases h
    | ok v =>
      obtain ⟨x, r⟩ := v
      rw [e] at h
      simp only at h
      obtain ⟨t', u', he, hsf⟩ := order_some e
      injection he with _ he
      subst he
      have hlen := hsf.length_le
      simp only [List.length_cons] at hn
      cases e2 : pRead r with
      | error s => rw [e2] at h; cases h
      | ok ys =>
        rw [e2] at h
        cases h
        have := read_len n r ys (by omega) e2
        simp only [List.length_cons]
        omega
theorem lexT_short (l : List UInt8) : (lexT l).length ≤ l.length := by
  unfold lexT
  split
  · simp
  · split
    · exact lexA_len l 0
    · simp
theorem parL_len (s : List UInt8) : (parL s).length ≤ s.length := by
  unfold parL
  split
  · unfold readL
    cases e : pRead (lexT s) with
    | error r => simp
    | ok xs =>
      have := read_len _ _ _ (Nat.le_refl _) e
      have := lexT_short s
      simp only
      omega
  · simp
theorem lexA_posY (l : List UInt8) : ∀ at_ : Nat, ∀ t ∈ (lexA l at_).1, (at_ : Int) ≤ t.pos ∧ t.pos < (at_ : Int) + l.length := by
  refine lex_induct (P := fun l => ∀ at_ : Nat, ∀ t ∈ (lexA l at_).1, (at_ : Int) ≤ t.pos ∧ t.pos < (at_ : Int) + l.length) ?_ ?_ ?_ l
  · intro at_ t h; rw [lexA_nil] at h; cases h
  · intro l hl h at_ t ht; rw [lexA_bad hl h] at ht; cases ht
  · intro l k o h ih at_ t ht
    have h1 := step_pos h
    rw [lexA_step h] at ht
    have key : ∀ t ∈ (lexA (l.drop k) (at_ + k)).1, (at_ : Int) ≤ t.pos ∧ t.pos < (at_ : Int) + l.length := by
      intro t ht
      have := ih (at_ + k) t ht
      rw [List.length_drop] at this
      omega
    cases o with
    | none => exact key t ht
    | some u =>
      rcases List.mem_cons.1 ht with rfl | ht
      · simp only; omega
      · exact key t ht
theorem parP_bd {s : List UInt8} (hs : s.length ≤ 65536) : 0 ≤ parP s ∧ parP s ≤ s.length := by
  unfold parP
  rcases lex_out hs with ⟨i, h1, h2, h3, h4⟩ | ⟨h1, h2, h3, h4⟩
  · rw [if_neg (by rw [h2]; decide), h3]
    have := (lexA_err s 0 i h1).2.1
    omega
  · rw [if_pos h2]
    unfold readP
    cases e : pRead (lexT s) with
    | ok xs => simp
    | error r =>
      cases r with
      | nil => simp [placeOf]
      | cons t u =>
        have hm := (read_end _ _ (Nat.le_refl _) _ e).subset (List.mem_cons_self ..)
        rw [h4] at hm
        have := lexA_posY s 0 t hm
        simp only [placeOf]
        omega
end Go.Proofs.YtfnmidddgjlipaaDoor

/-
  Layer 17, plain: sources printed from tokens; a token cut off or changed.
-/
set_option linter.unusedVariables false
set_option linter.unusedSimpArgs false
namespace Go.Proofs.YtfnmidddgjlipaaDoor

theorem textL_ofY {l : List Tok} (hv : ∀ t ∈ l, validB t = true) : textL l = joinW (l.map txt) := by
  unfold textL
  rw [if_pos (by simpa using hv)]
theorem textE_ofY {l : List Tok} (hv : ∀ t ∈ l, validB t = true) : textE l = 0 := by
  unfold textE
  rw [if_pos (by simpa using hv)]
theorem valid_short {t : Tok} (hv : validB t = true) : t.text.length ≤ 1000 := by
  rcases valid_kind hv with hk | hk | hk
  · have := (valid_name hv hk).1
    match hx : t.text, this with
    | c :: r, this => simp only [nameB, Bool.and_eq_true, decide_eq_true_eq] at this; omega
  · rw [(valid_num hv hk).1]; simp
  · obtain ⟨c, hc, _⟩ := valid_sgn hv hk
    rw [hc]; simp
/-- tokens printed are the tokens, apart from their places -/
theorem text_lex {l : List Tok} (hv : ∀ t ∈ l, validB t = true) (hs : (textL l).length ≤ 65536) :
    lexE (textL l) = 0 ∧ (lexT (textL l)).map erase = l.map erase ∧ lexT (textL l) = (lexA (textL l) 0).1 := by
  have h := lexA_joinW l 0 hv
  rw [← textL_ofY hv] at h
  rcases lex_out hs with ⟨i, h1, _⟩ | ⟨h1, h2, h3, h4⟩
  · rw [h.2] at h1; cases h1
  · exact ⟨h2, by rw [h4]; exact h.1, h4⟩
theorem readE_eras {l l' : List Tok} (h : l.map erase = l'.map erase) : readE l = readE l' := by
  have := eras_read h
  unfold readE
  cases e : pRead l with
  | error r => cases e' : pRead l' with
    | error r' => rfl
    | ok x' => rw [e, e'] at this; exact this.elim
  | ok x => cases e' : pRead l' with
    | error r' => rw [e, e'] at this; exact this.elim
    | ok x' => rfl
theorem readL_eras {l l' : List Tok} (h : l.map erase = l'.map erase) : readL l = readL l' := by
  have := eras_read h
  unfold readL
  cases e : pRead l with
  | error r => cases e' : pRead l' with
    | error r' => rfl
    | ok x' => rw [e, e'] at this; exact this.elim
  | ok x => cases e' : pRead l' with
    | error r' => rw [e, e'] at this; exact this.elim
    | ok x' => rw [e, e'] at this; exact this
/-- a source printed from tokens parses as the tokens are read -/
theorem text_parse {l : List Tok} (hv : ∀ t ∈ l, validB t = true) (hs : (textL l).length ≤ 65536) :
    parE (textL l) = readE l ∧ parL (textL l) = readL l := by
  obtain ⟨h1, h2, _⟩ := text_lex hv hs
  unfold parE parL
  rw [if_pos h1, if_pos h1]
  exact ⟨readE_eras h2, readL_eras h2⟩
theorem parP_ok {s : List UInt8} (h : parE s = 0) : parP s = 0 := by
  unfold parE at h
  unfold parP
  by_cases h0 : lexE s = 0
  · rw [if_pos h0] at h ⊢
    unfold readE at h
    unfold readP
    cases e : pRead (lexT s) with
    | ok xs => rfl
    | error r => rw [e] at h; cases h
  · rw [if_neg h0] at h
    exact absurd h h0
theorem par_read {s : List UInt8} (hl : lexE s = 0) (h : parE s = 0) : ∃ xs, pRead (lexT s) = .ok xs := by
  unfold parE at h
  rw [if_pos hl] at h
  unfold readE at h
  cases e : pRead (lexT s) with
  | ok xs => exact ⟨xs, rfl⟩
  | error r => rw [e] at h; cases h
/-- what the parser says of printed tokens: nothing, or the place of the first wrong one -/
theorem text_wrong {l : List Tok} (hv : ∀ t ∈ l, validB t = true) (hs : (textL l).length ≤ 65536) :
    (parE (textL l) = 0 ∧ parP (textL l) = 0 ∧ ∃ xs, pRead l = .ok xs) ∨
    ∃ r, pRead l = .error r ∧ parE (textL l) = 170 ∧ parP (textL l) = placeOf (textL l).length ((lexT (textL l)).drop (l.length - r.length)) := by
  obtain ⟨h1, h2, _⟩ := text_lex hv hs
  have h := eras_read h2
  have hll : (lexT (textL l)).length = l.length := by have := congrArg List.length h2; simpa using this
  cases e : pRead l with
  | ok xs =>
    refine .inl ?_
    have hp : parE (textL l) = 0 := by rw [(text_parse hv hs).1]; unfold readE; rw [e]
    exact ⟨hp, parP_ok hp, xs, rfl⟩
  | error r =>
    refine .inr ⟨r, rfl, by rw [(text_parse hv hs).1]; unfold readE; rw [e], ?_⟩
    unfold parP readP
    rw [if_pos h1]
    cases e2 : pRead (lexT (textL l)) with
    | ok xs => rw [e, e2] at h; exact h.elim
    | error r2 =>
      rw [e, e2] at h
      have hl : r2.length = r.length := by have := congrArg List.length (show r2.map erase = r.map erase from h); simpa using this
      have s2 := suffix_drop (read_end _ _ (Nat.le_refl _) _ e2)
      simp only
      rw [s2, hl, hll]
theorem cut_law {L : List Tok} {xs : List WishD} (hv : ∀ t ∈ L, validB t = true) (h : pRead L = .ok xs) (k : Nat) (hs : (textL (L.take k)).length ≤ 65536) :
    (parE (textL (L.take k)) = 0 ∧ parP (textL (L.take k)) = 0) ∨ (parE (textL (L.take k)) = 170 ∧ parP (textL (L.take k)) = (textL (L.take k)).length) := by
  have hv' : ∀ t ∈ L.take k, validB t = true := fun t ht => hv t (List.mem_of_mem_take ht)
  rcases text_wrong hv' hs with ⟨h1, h2, _⟩ | ⟨r, h1, h2, h3⟩
  · exact .inl ⟨h1, h2⟩
  · refine .inr ⟨h2, ?_⟩
    rcases read_cut (a := L.take k) (b := L.drop k) (xs := xs) (by rw [List.take_append_drop]; exact h) with ⟨ys, e⟩ | e
    · rw [e] at h1; cases h1
    · rw [e] at h1
      cases h1
      have hll : (lexT (textL (L.take k))).length = (L.take k).length := by have := congrArg List.length (text_lex hv' hs).2.1; simpa using this
      rw [h3, List.drop_eq_nil_of_le (by rw [hll]; simp)]
      rfl
/-- the tokens behind the first i of them lie behind the text of these -/
theorem join_pos : ∀ (l : List Tok) (i at_ : Nat), (∀ t ∈ l, validB t = true) → ∀ t ∈ (lexA (joinW (l.map txt)) at_).1.drop i, (at_ : Int) + (joinW ((l.take i).map txt)).length ≤ t.pos
  | l, 0, at_, h, t, ht => by
    have := lexA_posY _ _ t (by simpa using ht)
    simp [joinW]
    omega
  | [], i + 1, at_, h, t, ht => by simp [joinW, lexA_nil] at ht
  | [u], i + 1, at_, h, t, ht => by
    have := lexA_tok (t := u) (r := []) (h u (by simp)) rfl at_
    simp only [List.append_nil] at this
    simp only [List.map_cons, List.map_nil, joinW, this, lexA_nil, List.drop_succ_cons, List.drop_nil] at ht
    cases ht
  | u :: v :: r, i + 1, at_, h, t, ht => by
    have hu := lexA_tok (t := u) (r := 32 :: joinW ((v :: r).map txt)) (h u (by simp)) rfl at_
    have hs := lexA_spc (c := 32) (r := joinW ((v :: r).map txt)) (at_ := at_ + (txt u).length) rfl
    have ih := join_pos (v :: r) i (at_ + (txt u).length + 1) (fun x hx => h x (by simp at hx ⊢; right; exact hx)) t
    simp only [List.map_cons, joinW] at hu hs ih ht ⊢
    rw [hu, hs] at ht
    have := ih (by simpa using ht)
    cases i with
    | zero => simp [joinW] at this ⊢; omega
    | succ i => simp [joinW] at this ⊢; omega
theorem join_pre : ∀ (l : List (List UInt8)) (i : Nat), joinW (l.take i) <+: joinW l
  | l, 0 => by simp [joinW]
  | [], i + 1 => by simp [joinW]
  | [x], i + 1 => by simp [joinW]
  | x :: y :: r, 1 => by simp [joinW]
  | x :: y :: r, i + 2 => by
    have := join_pre (y :: r) (i + 1)
    simp only [List.take_succ_cons, joinW] at this ⊢
    obtain ⟨z, hz⟩ := this
    exact ⟨z, by rw [← hz]; simp⟩
theorem change_law {L : List Tok} {xs : List WishD} (hv : ∀ t ∈ L, validB t = true) (h : pRead L = .ok xs) {i : Nat} (hi : i < L.length) {o : Tok} (ho : validB o = true)
    (hs : (textL (L.set i o)).length ≤ 65536) :
    (parE (textL (L.set i o)) = 0 ∧ parP (textL (L.set i o)) = 0) ∨
    (parE (textL (L.set i o)) = 170 ∧ ((textL (L.take i)).length : Int) ≤ parP (textL (L.set i o)) ∧ parP (textL (L.set i o)) ≤ (textL (L.set i o)).length) := by
  have hv' : ∀ t ∈ L.set i o, validB t = true := fun t ht => by
    rcases List.mem_or_eq_of_mem_set ht with h | rfl
    · exact hv t h
    · exact ho
  have hvt : ∀ t ∈ L.take i, validB t = true := fun t ht => hv t (List.mem_of_mem_take ht)
  rcases text_wrong hv' hs with ⟨h1, h2, _⟩ | ⟨r, h1, h2, h3⟩
  · exact .inl ⟨h1, h2⟩
  · refine .inr ⟨h2, ?_, (parP_bd hs).2⟩
    have hsp : L.set i o = L.take i ++ o :: L.drop (i + 1) := by rw [List.set_eq_take_append_cons_drop, if_pos hi]
    have hsuf : r <:+ o :: L.drop (i + 1) := read_change (a := L.take i) (b := L.drop i) (xs := xs) (by rw [List.take_append_drop]; exact h) (by rw [← hsp]; exact h1)
    have hlen := hsuf.length_le
    simp only [List.length_cons, List.length_drop] at hlen
    have hli : i ≤ (L.set i o).length - r.length := by rw [List.length_set]; omega
    obtain ⟨d, hd⟩ : ∃ d, (L.set i o).length - r.length = i + d := ⟨_, (Nat.add_sub_cancel' hli).symm⟩
    rw [h3, hd, (text_lex hv' hs).2.2, ← List.drop_drop]
    have htk : (L.set i o).take i = L.take i := by rw [List.take_set]; exact List.set_eq_of_length_le (by simp; omega)
    rw [textL_ofY hvt, textL_ofY hv']
    have hpre := (join_pre ((L.set i o).map txt) i).length_le
    rw [← List.map_take, htk] at hpre
    cases e : List.drop d (List.drop i (lexA (joinW ((L.set i o).map txt)) 0).1) with
    | nil => simp only [placeOf]; omega
    | cons t u =>
      have hm : t ∈ (lexA (joinW ((L.set i o).map txt)) 0).1.drop i := List.mem_of_mem_drop (by rw [e]; exact List.mem_cons_self ..)
      have := join_pos _ i 0 hv' t hm
      rw [htk] at this
      simp only [placeOf]
      omega
theorem change_pre {L : List Tok} (hv : ∀ t ∈ L, validB t = true) {i : Nat} {o : Tok} (ho : validB o = true) : textL (L.take i) <+: textL (L.set i o) := by
  have hv' : ∀ t ∈ L.set i o, validB t = true := fun t ht => by
    rcases List.mem_or_eq_of_mem_set ht with h | rfl
    · exact hv t h
    · exact ho
  have hvt : ∀ t ∈ L.take i, validB t = true := fun t ht => hv t (List.mem_of_mem_take ht)
  rw [textL_ofY hvt, textL_ofY hv']
  have hpre := join_pre ((L.set i o).map txt) i
  rw [← List.map_take] at hpre
  have htk : (L.set i o).take i = L.take i := by rw [List.take_set]; exact List.set_eq_of_length_le (by simp; omega)
  rw [htk] at hpre
  exact hpre
end Go.Proofs.YtfnmidddgjlipaaDoor

/-
  What came in, opened: a token, tokens.
-/
set_option linter.unusedVariables false
set_option linter.unusedSimpArgs false
namespace Go.Proofs.YtfnmidddgjlipaaDoor
open Go.ChangeShapes Go.WideShapes Go.ChangeAt Go.RowKit Go.Deep

theorem cell_spot {w : World} {a : Addr} {v : Value} (h : w.cell? a = some v) : a.spot = none ∧ a.block < w.heap.size := by
  unfold World.cell? at h
  split at h
  · rename_i c t x hc
    refine ⟨?_, (Array.getElem?_eq_some_iff.1 hc).1⟩
    cases hs : a.spot with
    | none => rfl
    | some n => simp [hs] at h
  · cases h

theorem I64.of_wf {n : Int} (h : (Lit.int .i64 n).wf = true) : I64 n := by
  simp [Lit.wf, IntKind.min, IntKind.max, IntKind.signed, IntKind.bits] at h
  unfold I64
  omega

variable {H : Type} {enc : TypeId × Value → H} {w : World}

theorem weightsAll_mem {P : Program} {e : TypeId} {d : DataW H} {n : Nat} : ∀ {l : List (DataW H)}, d ∈ l → n ∈ d.weights P e → n ∈ DataW.weightsAll P e l
  | [], h, _ => by cases h
  | x :: r, h, hn => by
    simp only [DataW.weightsAll, List.mem_append]
    rcases List.mem_cons.1 h with rfl | h
    · exact Or.inl hn
    · exact Or.inr (weightsAll_mem h hn)

set_option maxRecDepth 100000 in
theorem open_tokC {fuel : Nat} {c : List Value} {x : DataW H × List MemPlace} (h : DataW.trod enc Tryd.prog w 0 (fun _ => true) true fuel 37 c = some x)
    (hsz : ∀ n ∈ x.1.weights Tryd.prog 37, n ≤ reachBytes) : ∃ t : Tok, c = tokC t ∧ okT t := by
  obtain ⟨y0, y1, y2, y3, n, rfl, hl, h0, h1, h2, h3⟩ := Go.Joins.trod_struct4 Tryd.underlying37 h
  have hC : Tryd.prog.cellsOf 37 = 4 := by kernel_rfl
  have k0 : Tryd.prog.cellsOf 3 = 1 := by kernel_rfl
  have k1 : Tryd.prog.cellsOf 9 = 1 := by kernel_rfl
  rw [hC] at hl
  match c, hl with
  | [va, vb, vc, vd], _ =>
    simp only [k0, k1, List.drop_zero, List.drop_succ_cons, List.take_succ_cons, List.take_zero] at h0 h1 h2 h3
    obtain ⟨a, e0, _, w0⟩ := DataW.trod_int Tryd.underlying3 h0
    obtain ⟨s, e1, hy, _⟩ := DataW.trod_string Tryd.underlying9 h1
    obtain ⟨b, e2, _, w2⟩ := DataW.trod_int Tryd.underlying3 h2
    obtain ⟨d, e3, _, w3⟩ := DataW.trod_int Tryd.underlying3 h3
    cases e0; cases e1; cases e2; cases e3
    have hw : ∀ n ∈ DataW.weightsEach Tryd.prog [3, 9, 3, 3] [y0.1, y1.1, y2.1, y3.1], n ≤ reachBytes := by
      intro n hn
      refine hsz n ?_
      simp only [DataW.weights, Tryd.underlying37]
      exact hn
    have hb := str_bound (s := s) (d := y1.1) (by rw [hy]) (fun n hn => hw n (DataW.weights_mem_each (j := 1) (t := 9) rfl rfl n hn))
    exact ⟨⟨a, s.data.toList, b, d⟩, rfl, I64.of_wf w0, by show s.data.toList.length ≤ _; rw [Array.length_toList]; exact hb, I64.of_wf w2, I64.of_wf w3⟩

theorem open_toks {fuel : Nat} {v : Value} {x : DataW H × List MemPlace} (h : DataW.trod enc Tryd.prog w 0 (fun _ => true) true fuel 33 [v] = some x)
    (hsz : ∀ n ∈ x.1.weights Tryd.prog 33, n ≤ reachBytes) : ∃ ts, IsToks w.heap.size w v ts := by
  have hC : Tryd.prog.cellsOf 37 = 4 := by kernel_rfl
  have hb : Tryd.prog.bytesOf 37 = 40 := by kernel_rfl
  rcases open_slice Tryd.underlying33 h with ⟨hv, rfl⟩ | ⟨a, len, cap, m, n, D, Pl, hv, _, hl, hm, hmm, rfl, hx⟩
  · cases hv
    exact ⟨[], IsToks.nil _ _⟩
  · cases hv
    simp only [if_true] at hmm
    subst hmm
    have h8 := hsz ((((List.range len).map D).length + ((List.range (m - len)).map fun j => D (len + j)).length) * Tryd.prog.bytesOf 37) (by simp only [DataW.weights, Tryd.underlying33]; exact List.mem_cons_self)
    rw [hb] at h8
    simp only [List.length_map, List.length_range] at h8
    unfold reachBytes at h8
    have hel : ∀ i, i < len → ∃ t : Tok, (w.cells? 0 (a.add (i * 4)) 4 = some (tokC t)) ∧ okT t := by
      intro i hi
      obtain ⟨cs', h1, h2⟩ := hx i (by omega)
      rw [hC] at h1
      obtain ⟨t, rfl, hd⟩ := open_tokC h2 (fun n hn => hsz n (by
        simp only [DataW.weights, Tryd.underlying33]
        exact List.mem_cons_of_mem _ (List.mem_append_left _ (weightsAll_mem (List.mem_map.2 ⟨i, List.mem_range.2 hi, rfl⟩) hn))))
      exact ⟨t, h1, hd⟩
    obtain ⟨L, hL⟩ := choose_lt (α := Tok) (p := fun i t => (w.cells? 0 (a.add (i * 4)) 4 = some (tokC t)) ∧ okT t) (fun i hi => hel i hi)
    have hn : ((List.range len).map L).length = len := by simp
    have hsp : 0 < len → a.spot = none := by
      intro h0
      obtain ⟨t, h1, _⟩ := hel 0 h0
      have := (World.cells?_some h1).2.2 0 (by simp [tokC])
      simp [Addr.add, tokC] at this
      exact (cell_spot this).1
    refine ⟨(List.range len).map L, a.block, a.off, m, ⟨some a, by rw [hn], by omega, by unfold maxLen at hm; omega, ?_⟩, by omega, ?_, fun j hj => ?_⟩
    · by_cases h0 : len = 0
      · exact Or.inr (by omega)
      · left
        have := hsp (by omega)
        obtain ⟨b, o, sp⟩ := a
        simp at this
        rw [this]
    · intro t ht
      obtain ⟨i, hi, rfl⟩ := List.mem_map.1 ht
      exact (hL i (List.mem_range.1 hi)).2
    · rw [hn] at hj
      have h0 := hsp (by omega)
      obtain ⟨b, o, sp⟩ := a
      simp at h0
      subst h0
      obtain ⟨h1, h2⟩ := hL j hj
      have hat : tokAt ((List.range len).map L) j = L j := by
        unfold tokAt
        rw [List.getD_eq_getElem?_getD]
        simp [hj]
      have hc := (World.cells?_some h1).2.2
      rw [add_plain] at hc
      have c0 := hc 0 (by simp [tokC])
      have c1 := hc 1 (by simp [tokC])
      have c2 := hc 2 (by simp [tokC])
      have c3 := hc 3 (by simp [tokC])
      rw [add_plain] at c0 c1 c2 c3
      rw [hat]
      exact ⟨⟨(cell_spot c0).2, c0⟩, ⟨(cell_spot c1).2, c1⟩, ⟨(cell_spot c2).2, c2⟩, ⟨(cell_spot c3).2, c3⟩⟩

set_option maxRecDepth 100000 in
theorem open_IsToks {r : Reach} {b0 : Nat} {v : Value} {d : DataW H} {p : List MemPlace} (hv : Value.okWide Tryd.prog w r b0 33 v) (h : DataW.Trod enc Tryd.prog w 0 (fun _ => true) true 33 v d p)
    (hsz : ∀ n ∈ d.weights Tryd.prog 33, n ≤ reachBytes) : ∃ ts, IsToks w.heap.size w v ts := by
  obtain ⟨fuel, hf⟩ := h
  obtain ⟨a, l, c, rfl⟩ := okWide_slice Tryd.underlying33 hv
  exact open_toks hf hsz
set_option maxRecDepth 100000 in
theorem open_IsTok {r : Reach} {b0 : Nat} {v : Value} {d : DataW H} {p : List MemPlace} (hv : Value.okWide Tryd.prog w r b0 37 v) (h : DataW.Trod enc Tryd.prog w 0 (fun _ => true) true 37 v d p)
    (hsz : ∀ n ∈ d.weights Tryd.prog 37, n ≤ reachBytes) : ∃ t : Tok, v = .agg (tokC t).toArray ∧ okT t := by
  obtain ⟨cs, rfl, hs⟩ := okWide_struct Tryd.underlying37 hv
  obtain ⟨fuel, hf⟩ := h
  obtain ⟨t, ht, ho⟩ := open_tokC hf hsz
  refine ⟨t, ?_, ho⟩
  obtain ⟨l⟩ := cs
  exact congrArg (fun l => Value.agg ⟨l⟩) ht
end Go.Proofs.YtfnmidddgjlipaaDoor

/-
  Layer 17, plain: white space and comments between tokens; bytes that came in.
-/
set_option linter.unusedVariables false
set_option linter.unusedSimpArgs false
namespace Go.Proofs.YtfnmidddgjlipaaDoor

def skipB (g : List UInt8) : Prop := ∀ r at_, lexA (g ++ r) at_ = lexA r (at_ + g.length)
theorem skip_nil : skipB [] := fun r at_ => rfl
theorem skip_app {a b : List UInt8} (ha : skipB a) (hb : skipB b) : skipB (a ++ b) := fun r at_ => by
  rw [List.append_assoc, ha, hb, List.length_append, Nat.add_assoc]
theorem skip_spc {c : UInt8} (h : isSpc c = true) : skipB [c] := fun r at_ => lexA_spc h
theorem skip_com {p : List UInt8} (h : ∀ b ∈ p, (b != 10) = true) : skipB (47 :: 47 :: p ++ [10]) := fun r at_ => by
  have hc : comLen (47 :: 47 :: (p ++ 10 :: r)) = p.length + 2 := by
    unfold comLen
    have : (p ++ 10 :: r).takeWhile (fun c : UInt8 => c != 10) = p := by
      rw [List.takeWhile_append_of_pos h]
      simp
    simp [List.takeWhile_cons, this]
  have hs : stepL (47 :: 47 :: (p ++ 10 :: r)) = some (p.length + 2, none) := by
    simp only [stepL]
    rw [if_neg (by decide)]
    have : ((47 : UInt8) == 47 && (47 :: (p ++ 10 :: r)).head? == some 47) = true := by simp
    rw [if_pos this, hc]
  have e : 47 :: 47 :: p ++ [10] ++ r = 47 :: 47 :: (p ++ 10 :: r) := by simp
  rw [e, lexA_step hs]
  show lexA _ _ = _
  rw [show p.length + 2 = ((47 : UInt8) :: 47 :: p).length by simp]
  rw [show (47 : UInt8) :: 47 :: (p ++ 10 :: r) = (47 :: 47 :: p) ++ (10 :: r) by simp, List.drop_left, lexA_spc rfl]
  rw [show at_ + ((47 : UInt8) :: 47 :: p).length + 1 = at_ + (47 :: 47 :: p ++ [(10 : UInt8)]).length by simp; omega]

def gaps5 : List (List UInt8) := [[32], [10, 9], [32, 47, 47, 32, 123, 32, 55, 10], [13, 32, 32], [32, 47, 47, 10]]
theorem gaps5_ok : ∀ g ∈ gaps5, skipB g ∧ g.length ≤ 8 ∧ ∀ r, stopB (g ++ r) = true := by
  have s32 : skipB [32] := skip_spc rfl
  have s9 : skipB [9] := skip_spc rfl
  have s10 : skipB [10] := skip_spc rfl
  have s13 : skipB [13] := skip_spc rfl
  intro g hg
  simp only [gaps5, List.mem_cons, List.not_mem_nil, or_false] at hg
  rcases hg with rfl | rfl | rfl | rfl | rfl
  · exact ⟨s32, by decide, fun r => rfl⟩
  · exact ⟨skip_app s10 s9, by decide, fun r => rfl⟩
  · exact ⟨skip_app (b := 47 :: 47 :: [32, 123, 32, 55] ++ [10]) s32 (skip_com (p := [32, 123, 32, 55]) (by simp)), by decide, fun r => rfl⟩
  · exact ⟨skip_app s13 (skip_app s32 s32), by decide, fun r => rfl⟩
  · exact ⟨skip_app (b := 47 :: 47 :: [] ++ [10]) s32 (skip_com (p := []) (by simp)), by decide, fun r => rfl⟩
/-- the gap ahead of token i -/
def gapY (us : List Int) (i : Nat) : List UInt8 := gaps5.getD (if i < us.length then (us.getD i 0 % 5).toNat else 0) []
theorem gapY_mem (us : List Int) (i : Nat) : gapY us i ∈ gaps5 := by
  unfold gapY
  split
  · rw [List.getD_eq_getElem?_getD, List.getElem?_eq_getElem (by simp only [gaps5, List.length_cons, List.length_nil]; omega)]
    exact List.getElem_mem _
  · simp [gaps5]
def piecesY (ps : List (List UInt8 × Tok)) : List UInt8 := ps.flatMap fun p => p.1 ++ txt p.2
theorem piecesY_lex : ∀ (ps : List (List UInt8 × Tok)) (r : List UInt8) (at_ : Nat), (∀ p ∈ ps, validB p.2 = true ∧ p.1 ∈ gaps5) → stopB r = true →
    ∃ T, lexA (piecesY ps ++ r) at_ = (T ++ (lexA r (at_ + (piecesY ps).length)).1, (lexA r (at_ + (piecesY ps).length)).2) ∧ T.map erase = (ps.map (·.2)).map erase
  | [], r, at_, h, hr => ⟨[], rfl, rfl⟩
  | (g, t) :: ps, r, at_, h, hr => by
    obtain ⟨hv, hg⟩ := h (g, t) (by simp)
    obtain ⟨g1, _, _⟩ := gaps5_ok g hg
    have e : piecesY ((g, t) :: ps) ++ r = g ++ (txt t ++ (piecesY ps ++ r)) := by simp [piecesY]
    have hst : stopB (piecesY ps ++ r) = true := by
      cases ps with
      | nil => exact hr
      | cons p ps =>
        obtain ⟨_, _, h3⟩ := gaps5_ok p.1 (h p (by simp)).2
        have : piecesY (p :: ps) ++ r = p.1 ++ (txt p.2 ++ (piecesY ps ++ r)) := by simp [piecesY]
        rw [this]
        exact h3 _
    have hs := step_txt (t := t) hv hst
    obtain ⟨T, h1, h2⟩ := piecesY_lex ps r (at_ + g.length + (txt t).length) (fun p hp => h p (by simp [hp])) hr
    have hl : at_ + g.length + (txt t).length + (piecesY ps).length = at_ + (piecesY ((g, t) :: ps)).length := by simp [piecesY]; omega
    rw [hl] at h1
    refine ⟨{ t with pos := ((at_ + g.length : Nat) : Int) } :: T, ?_, ?_⟩
    · rw [e, g1, lexA_step hs, List.drop_left, h1]
      rfl
    · simp only [List.map_cons, h2]
      rfl
def bodyY (L : List Tok) (us : List Int) (k : Nat) : List UInt8 := piecesY ((List.range k).map fun i => (gapY us i, tokAt L i))
theorem bodyY_succ (L : List Tok) (us : List Int) (k : Nat) : bodyY L us (k + 1) = bodyY L us k ++ (gapY us k ++ txt (tokAt L k)) := by
  unfold bodyY piecesY
  rw [List.range_succ, List.map_append, List.flatMap_append]
  simp
theorem txt_lenY {t : Tok} (hv : validB t = true) : (txt t).length ≤ 45 := by
  unfold txt
  by_cases hk : t.kind = 2
  · obtain ⟨h1, h2, h3⟩ := valid_num hv hk
    rw [hk, itoa_nat h2]
    have := dec_len 12 t.n.toNat (by omega)
    simp
    omega
  · have e : (t.kind == 2) = false := by simpa using hk
    rw [e]
    rcases valid_kind hv with hk' | hk' | hk'
    · have := (valid_name hv hk').1
      match hx : t.text, this with
      | c :: r, this => simp only [nameB, Bool.and_eq_true, decide_eq_true_eq] at this; simp at this ⊢; omega
    · exact absurd hk' hk
    · obtain ⟨c, hc, _⟩ := valid_sgn hv hk'
      rw [hc]; simp
theorem bodyY_len {L : List Tok} {us : List Int} (hv : ∀ t ∈ L, validB t = true) : ∀ k, k ≤ L.length → (bodyY L us k).length ≤ 53 * k
  | 0, _ => by simp [bodyY, piecesY]
  | k + 1, hk => by
    have ih := bodyY_len (us := us) hv k (by omega)
    have h1 := txt_lenY (hv (tokAt L k) (by rw [tokAt_get (show k < L.length by omega)]; exact List.getElem_mem (by omega)))
    have h2 := (gaps5_ok _ (gapY_mem us k)).2.1
    rw [bodyY_succ]
    simp only [List.length_append]
    omega
theorem range_tokY (ts : List Tok) : (List.range ts.length).map (tokAt ts) = ts := by
  apply List.ext_getElem (by simp)
  intro i h1 h2
  simp [tokAt_get h2]
theorem spaces_parse {s : List UInt8} {us : List Int} (hs : s.length ≤ 1000) (hl : lexE s = 0) :
    parE (bodyY (lexT s) us (lexT s).length ++ [10]) = parE s ∧ parL (bodyY (lexT s) us (lexT s).length ++ [10]) = parL s := by
  obtain ⟨L, hL⟩ : ∃ L, lexT s = L := ⟨_, rfl⟩
  have hv : ∀ t ∈ L, validB t = true := by rw [← hL]; exact lexT_valid s
  have hsh := lexT_short s
  rw [hL] at hsh ⊢
  have hb := bodyY_len (us := us) hv L.length (Nat.le_refl _)
  obtain ⟨T, h1, h2⟩ := piecesY_lex ((List.range L.length).map fun i => (gapY us i, tokAt L i)) [10] 0 (fun p hp => by
    obtain ⟨i, hi, rfl⟩ := List.mem_map.1 hp
    refine ⟨hv _ ?_, gapY_mem us i⟩
    have hi := List.mem_range.1 hi
    rw [tokAt_get hi]; exact List.getElem_mem hi) rfl
  have h10 : ∀ a, lexA [10] a = ([], none) := fun a => by rw [lexA_spc (c := 10) (r := []) rfl, lexA_nil]
  rw [h10] at h1
  simp only [List.append_nil] at h1
  have hmap : ((List.range L.length).map fun i => (gapY us i, tokAt L i)).map (·.2) = L := by
    rw [List.map_map]
    exact range_tokY L
  rw [hmap] at h2
  have hlen : (bodyY L us L.length ++ [10]).length ≤ 65536 := by
    rw [List.length_append]
    have : 53 * L.length ≤ 53 * 1000 := Nat.mul_le_mul_left _ (by omega)
    simp only [List.length_cons, List.length_nil]
    omega
  have h1' : lexA (bodyY L us L.length ++ [10]) 0 = (T, none) := h1
  rcases lex_out hlen with ⟨i, k1, _⟩ | ⟨k1, k2, k3, k4⟩
  · rw [h1'] at k1; cases k1
  · rw [h1'] at k4
    have he : (lexT (bodyY L us L.length ++ [10])).map erase = (lexT s).map erase := by rw [k4, hL]; exact h2
    unfold parE parL
    rw [if_pos k2, if_pos k2, if_pos hl, if_pos hl]
    exact ⟨readE_eras he, readL_eras he⟩

/-! ### bytes that came in -/
open Go.ChangeShapes Go.WideShapes Go.ChangeAt Go.RowKit Go.Deep
def IsU8s (B : Nat) (w : World) (v : Value) (us : List Int) : Prop :=
  ∃ b off cap, SliceV v us.length b off cap ∧ us.length ≤ 140737488351232 ∧ (∀ x ∈ us, (0 : Int) ≤ x ∧ x ≤ 255) ∧ ∀ j, j < us.length → CellB B w b (off + j) (.int .u8 (us.getD j 0))
theorem IsU8s.below {B B' : Nat} {w w' : World} {v : Value} {us : List Int} (h : IsU8s B w v us) (hb : Below B' w w') (hB : B ≤ B') : IsU8s B w' v us := by
  obtain ⟨b, off, cap, h1, h2, h3, h4⟩ := h
  exact ⟨b, off, cap, h1, h2, h3, fun j hj => (h4 j hj).below hb hB⟩
theorem IsU8s.form {B : Nat} {w : World} {v : Value} {us : List Int} (h : IsU8s B w v us) : ∃ a c, v = .slice a us.length c ∧ us.length ≤ c ∧ c ≤ 9223372036854775807 ∧ us.length ≤ 140737488351232 := by
  obtain ⟨b, off, cap, ⟨a, rfl, h2, h3, h4⟩, h5, _⟩ := h
  exact ⟨a, cap, rfl, h2, h3, h5⟩
theorem IsU8s.cell {B : Nat} {w : World} {a : Option Addr} {c : Nat} {us : List Int} (h : IsU8s B w (.slice a us.length c) us) {k : Nat} (hk : k < us.length) : ∃ b off u, a = some ⟨b, off, none⟩ ∧ b < B ∧ u = us.getD k 0 ∧ 0 ≤ u ∧ u ≤ 255 ∧ w.cell? ⟨b, off + k, none⟩ = some (.int .u8 u) := by
  obtain ⟨b, off, cap, ⟨a', he, h2, h3, h4⟩, h5, h6, h7⟩ := h
  cases he
  have hm : us.getD k 0 ∈ us := by rw [List.getD_eq_getElem?_getD, List.getElem?_eq_getElem hk]; exact List.getElem_mem hk
  obtain ⟨m1, m2⟩ := h6 _ hm
  refine ⟨b, off, _, ?_, (h7 k hk).1, rfl, m1, m2, (h7 k hk).2⟩
  rcases h4 with h4 | h4
  · exact h4
  · omega

variable {H : Type} {enc : TypeId × Value → H} {w : World}
theorem open_bytes {fuel : Nat} {v : Value} {x : DataW H × List MemPlace} (h : DataW.trod enc Tryd.prog w 0 (fun _ => true) true fuel 32 [v] = some x)
    (hsz : ∀ n ∈ x.1.weights Tryd.prog 32, n ≤ reachBytes) : ∃ us, IsU8s w.heap.size w v us := by
  have hb : Tryd.prog.bytesOf 5 = 1 := by kernel_rfl
  rcases open_ints Tryd.underlying32 Tryd.underlying5 (by kernel_rfl) h with ⟨hv, rfl⟩ | ⟨a, len, cap, zs, hv, _, hl, hm, hzl, rfl, hcell, hwf⟩
  · cases hv
    exact ⟨[], 0, 0, 0, ⟨none, rfl, Nat.le_refl _, by omega, Or.inr rfl⟩, by simp, by simp, fun j hj => by simp at hj⟩
  · cases hv
    simp only [if_true] at hzl
    have h8 := hsz (((lits .u8 (zs.take len) : List (DataW H)).length + (lits .u8 (zs.drop len) : List (DataW H)).length) * Tryd.prog.bytesOf 5) (by simp only [DataW.weights, Tryd.underlying32]; exact List.mem_cons_self)
    rw [hb] at h8
    have hlt : (lits .u8 (zs.take len) : List (DataW H)).length = len := by simp [lits]; omega
    have hld : (lits .u8 (zs.drop len) : List (DataW H)).length = cap - len := by simp [lits]; omega
    rw [hlt, hld] at h8
    unfold reachBytes at h8
    have hn : (zs.take len).length = len := by simp; omega
    refine ⟨zs.take len, a.block, a.off, cap, ⟨some a, by rw [hn], by omega, by unfold maxLen at hm; omega, ?_⟩, by omega, fun y hy => ?_, fun j hj => ?_⟩
    · by_cases h0 : len = 0
      · exact Or.inr (by omega)
      · have := (cell_spot (hcell 0 (by omega))).1
        left
        obtain ⟨b, o, sp⟩ := a
        simp [Addr.add] at this
        rw [this]
    · have := hwf y (List.mem_of_mem_take hy)
      simp [Lit.wf, IntKind.min, IntKind.max, IntKind.signed, IntKind.bits] at this
      omega
    · rw [hn] at hj
      have hc := hcell j (by omega)
      have h0 := (cell_spot (hcell 0 (by omega))).1
      have hb2 := (cell_spot hc).2
      obtain ⟨b, o, sp⟩ := a
      simp [Addr.add] at h0
      subst h0
      rw [add_plain] at hc hb2
      refine ⟨hb2, ?_⟩
      rw [hc]
      rw [List.getD_eq_getElem?_getD, List.getD_eq_getElem?_getD, List.getElem?_take, if_pos hj]
set_option maxRecDepth 100000 in
theorem open_IsBytes {r : Reach} {b0 : Nat} {v : Value} {d : DataW H} {p : List MemPlace} (hv : Value.okWide Tryd.prog w r b0 32 v) (h : DataW.Trod enc Tryd.prog w 0 (fun _ => true) true 32 v d p)
    (hsz : ∀ n ∈ d.weights Tryd.prog 32, n ≤ reachBytes) : ∃ us, IsU8s w.heap.size w v us := by
  obtain ⟨fuel, hf⟩ := h
  obtain ⟨a, l, c, rfl⟩ := okWide_slice Tryd.underlying32 hv
  exact open_bytes hf hsz
end Go.Proofs.YtfnmidddgjlipaaDoor

/-
  Layer 17: the walk of SyntaxSpaces.
-/
set_option linter.unusedVariables false
set_option linter.unusedSimpArgs false
namespace Go.Proofs.YtfnmidddgjlipaaDoor
open Go.RowKit

theorem Tk1 (w : World) (t : Tok) (ty : TypeId) (hok : okT t) : IsToks (w.alloc (.cells #[.int .i64 t.kind, strV t.text, .int .i64 t.n, .int .i64 t.pos] ty)).heap.size (w.alloc (.cells #[.int .i64 t.kind, strV t.text, .int .i64 t.n, .int .i64 t.pos] ty)) (.slice (some ⟨w.heap.size, 0, none⟩) 1 1) [t] := by
  refine ⟨w.heap.size, 0, 1, ⟨_, rfl, Nat.le_refl _, by omega, Or.inl rfl⟩, by simp, fun u hu => ?_, fun j hj => ?_⟩
  · obtain rfl := List.mem_singleton.1 hu
    exact hok
  · obtain rfl : j = 0 := by simp at hj; exact hj
    have hb : w.heap.size < (w.alloc (.cells #[.int .i64 t.kind, strV t.text, .int .i64 t.n, .int .i64 t.pos] ty)).heap.size := by simp
    exact ⟨⟨hb, World.cell?_alloc_at _ _ _ _ rfl⟩, ⟨hb, World.cell?_alloc_at _ _ _ _ rfl⟩, ⟨hb, World.cell?_alloc_at _ _ _ _ rfl⟩, ⟨hb, World.cell?_alloc_at _ _ _ _ rfl⟩⟩
def gapA : Value := .agg #[.string ⟨#[32]⟩, .string ⟨#[10, 9]⟩, .string ⟨#[32, 47, 47, 32, 123, 32, 55, 10]⟩, .string ⟨#[13, 32, 32]⟩, .string ⟨#[32, 47, 47, 10]⟩]
theorem index_gap {w : World} {q : Nat} (h : q < 5) : (Instr.index 39 (.agg #[.string ⟨#[32]⟩, .string ⟨#[10, 9]⟩, .string ⟨#[32, 47, 47, 32, 123, 32, 55, 10]⟩, .string ⟨#[13, 32, 32]⟩, .string ⟨#[32, 47, 47, 10]⟩]) (.int .i64 (q : Int))).run Tryd.prog w = .ok (strV (gaps5.getD q [])) w := by
  have hu := Tryd.underlying39
  have hq : (q : Int) < 5 := by omega
  have hq0 : (0 : Int) ≤ (q : Int) := by omega
  have hg : (#[Value.string ⟨#[32]⟩, .string ⟨#[10, 9]⟩, .string ⟨#[32, 47, 47, 32, 123, 32, 55, 10]⟩, .string ⟨#[13, 32, 32]⟩, .string ⟨#[32, 47, 47, 10]⟩] : Array Value)[q]? = some (strV (gaps5.getD q [])) := by
    match q, h with
    | 0, _ => rfl
    | 1, _ => rfl
    | 2, _ => rfl
    | 3, _ => rfl
    | 4, _ => rfl
  simp [Instr.index, go_sem, hu, hq, hq0]
  clear hu hg hq hq0
  generalize Tryd.prog = P
  rw [if_pos h]
  match q, h with
  | 0, _ => rfl
  | 1, _ => rfl
  | 2, _ => rfl
  | 3, _ => rfl
  | 4, _ => rfl
theorem strV_appY (a b : List UInt8) : strV (a ++ b) = .string ((⟨a.toArray⟩ : ByteArray) ++ (⟨b.toArray⟩ : ByteArray)) := by
  have : (⟨(a ++ b).toArray⟩ : ByteArray) = (⟨a.toArray⟩ : ByteArray) ++ (⟨b.toArray⟩ : ByteArray) := by
    apply ByteArray.ext
    rw [ByteArray.data_append]
    simp
  unfold strV
  rw [this]
theorem one_textY {t : Tok} (h : validB t = true) : textE [t] = 0 ∧ textL [t] = txt t := by
  have hv : ∀ u ∈ [t], validB u = true := fun u hu => by obtain rfl := List.mem_singleton.1 hu; exact h
  exact ⟨textE_ofY hv, by rw [textL_ofY hv]; rfl⟩
theorem gapY_some {us : List Int} {k : Nat} {q : Nat} (h : k < us.length) (hq : us.getD k 0 % 5 = (q : Int)) : gapY us k = gaps5.getD q [] := by
  unfold gapY
  rw [if_pos h, hq]
  rfl
theorem gapY_none {us : List Int} {k : Nat} (h : ¬ k < us.length) : gapY us k = gaps5.getD 0 [] := by
  unfold gapY
  rw [if_neg h]
theorem gaps5_len (q : Nat) (h : q < 5) : (gaps5.getD q []).length ≤ 8 := by
  match q, h with
  | 0, _ => decide
  | 1, _ => decide
  | 2, _ => decide
  | 3, _ => decide
  | 4, _ => decide

set_option maxHeartbeats 8000000 in
set_option maxRecDepth 100000 in
theorem syntaxSpaces_any (B : Nat) (s : ByteArray) (vu : Value) (us : List Int) (w : World) (hL : LaidW w) (hs : s.size ≤ 140737488351232) (hB : B ≤ w.heap.size) (hu : IsU8s B w vu us) :
    Calls Tryd.prog 4 #[.string s, vu] w fun e w' => e = .returned (.bool true) ∧ Below w.heap.size w w' := by
  have HL0 := Lib.hid hL
  have h4 := hL.size
  have HU := Lib.hid hu
  have hlen := size_data s
  obtain ⟨au, cu, rfl, hu1, hu2, hu3⟩ := hu.form
  clear hL hu
  go_enter Tryd.func4, Tryd.ntmps4
  go_wp2_with fail
  refine (sane17_any w HL0.out).mono ?_
  rintro e w1 ⟨rfl, hb⟩
  have HB1 := Lib.hid hb
  have HL1 := Lib.hid (HL0.out.below hb h4)
  clear hb
  obtain ⟨A, hA⟩ : ∃ A, s.data.toList = A := ⟨_, rfl⟩
  have HA : Hid (A.length = s.size) := Lib.hid (by rw [← hA]; exact hlen)
  go_wp2_with fail
  refine (lex_any s w1 HL1.out (by omega)).mono ?_
  rintro e w2 ⟨v1, he, ho, hb⟩
  rw [hA] at he ho
  have HB2 : Hid (Below w.heap.size w w2) := Lib.hid (HB1.out.trans (hb.mono HB1.out.size))
  have HT := Lib.hid ho.isToks
  obtain ⟨a1, c1, rfl⟩ := ho.form
  have HSP := Lib.hid (fun h => spaces_parse (s := A) (us := us) h)
  have HSH : Hid ((lexT A).length ≤ A.length) := Lib.hid (lexT_short A)
  have HVA : Hid (∀ t ∈ lexT A, validB t = true) := Lib.hid (lexT_valid A)
  obtain ⟨ET, hET⟩ : ∃ E, lexE A = E := ⟨_, rfl⟩
  obtain ⟨PT, hPT⟩ : ∃ E, lexP A = E := ⟨_, rfl⟩
  obtain ⟨T, hT⟩ : ∃ L, lexT A = L := ⟨_, rfl⟩
  rw [hT] at HSP HSH HVA
  rw [hET] at HSP
  rw [hET, hPT, hT] at he
  rw [hT] at HT
  obtain ⟨aT, cT, hfT, hT1, hT2, hT3⟩ := HT.out.form
  subst he
  clear ho hb hlen hET hPT hT hfT
  by_cases hc1 : 1000 < s.size
  · have c1' : (1000 : Int) < (s.size : Int) := by omega
    go_wp2
    go_ret
    exact ⟨rfl, HB2.out⟩
  have c1' : ¬ (1000 : Int) < (s.size : Int) := by omega
  by_cases hc2 : ET = 0
  rotate_left
  · have c2' : (ET != 0) = true := by simpa using hc2
    clear hc2
    go_wp2
    go_ret
    exact ⟨rfl, HB2.out⟩
  subst hc2
  have HAL : Hid (A.length ≤ 1000) := Lib.hid (by have := HA.out; omega)
  have HTL : Hid (T.length ≤ 1000) := Lib.hid (by have := HSH.out; have := HAL.out; omega)
  have HBL := Lib.hid (fun k hk => bodyY_len (us := us) HVA.out k hk)
  have HU2 := Lib.hid (HU.out.below HB2.out hB)
  have hz2' : B ≤ w2.heap.size := Nat.le_trans hB HB2.out.size
  have hz2 := HB2.out.size
  have hTL := HTL.out
  go_wp2
  go_loopw [8, 37] (fun xv iv wr => ∃ k : Nat, k ≤ T.length ∧ iv = .int .i64 k ∧ xv = strV (bodyY T us k) ∧ Below w2.heap.size w2 wr) (fun xv iv _ => T.length - (intOf iv).toNat)
  case atStart => exact ⟨0, by omega, rfl, rfl, Below.refl _ _⟩
  case round =>
    obtain ⟨k, hk, rfl, hxe, hbr⟩ := hrel
    have HBR := Lib.hid hbr
    have hzr := hbr.size
    have HHL : Hid ((bodyY T us k).length ≤ 53000) := Lib.hid (by have := HBL.out k hk; omega)
    clear hbr
    obtain ⟨hx, hhx⟩ : ∃ hx : ByteArray, (⟨(bodyY T us k).toArray⟩ : ByteArray) = hx := ⟨_, rfl⟩
    have hxz : hx.size ≤ 53000 := by rw [← hhx, len_mk]; exact HHL.out
    rw [show strV (bodyY T us k) = .string hx from by rw [← hhx]] at hxe
    subst hxe
    have HHX := Lib.hid hhx
    clear hhx
    by_cases hlt : k < T.length
    · obtain ⟨b, off, rfl, bb, g0, g1, g2, g3⟩ := ((HT.out.below HBR.out (by omega))).cells hlt
      have HOK := Lib.hid (HT.out.ok hlt)
      have HTM : Hid (validB (tokAt T k) = true) := Lib.hid (HVA.out _ (by rw [tokAt_get hlt]; exact List.getElem_mem hlt))
      have hbl : ¬ b = wr.heap.size := by omega
      have HSU := Lib.hid (bodyY_succ T us k)
      go_upto_region 10 with fail
      rw [show (Value.string ⟨(tokAt T k).text.toArray⟩) = strV (tokAt T k).text from rfl]
      obtain ⟨tk, htk⟩ : ∃ tk, tokAt T k = tk := ⟨_, rfl⟩
      have HTK := Lib.hid htk
      rw [htk] at HOK HTM ⊢
      have HKW := Lib.hid (CellsN.new wr #[.int .i64 tk.kind, strV tk.text, .int .i64 tk.n, .int .i64 tk.pos] 37)
      have HBX : Hid (Below w2.heap.size w2 (wr.alloc (.cells #[.int .i64 tk.kind, strV tk.text, .int .i64 tk.n, .int .i64 tk.pos] 37))) := Lib.hid (HBR.out.alloc hzr _)
      obtain ⟨W, hW⟩ : ∃ W, wr.alloc (.cells #[.int .i64 tk.kind, strV tk.text, .int .i64 tk.n, .int .i64 tk.pos] 37) = W := ⟨_, rfl⟩
      have hzW := HBX.out.size
      rw [hW] at HKW HBX hzW ⊢
      clear hW g0 g1 g2 g3 htk
      have m0 := HKW.out.cell 0
      have m1 := HKW.out.cell 1
      have m2 := HKW.out.cell 2
      have m3 := HKW.out.cell 3
      simp at m0 m1 m2 m3
      have HBY : Hid (Below w.heap.size w (W.alloc (.cells #[.int .i64 tk.kind, strV tk.text, .int .i64 tk.n, .int .i64 tk.pos] 37))) := Lib.hid ((HB2.out.trans (HBX.out.mono hz2)).alloc (by omega) _)
      have HTW := Lib.hid (Tk1 W tk 37 HOK.out)
      go_wp2_with fail
      refine (text_any _ _ _ [tk] (HL0.out.below HBY.out h4) (Nat.le_refl _) HTW.out (by simp) (fun t ht => by obtain rfl := List.mem_singleton.1 ht; have := valid_short HTM.out; omega)).mono ?_
      rintro e w7 ⟨rfl, hb⟩
      have HC7 : Hid (Below w2.heap.size w2 w7) := Lib.hid ((HBX.out.alloc hzW _).trans (hb.mono (by simp; omega)))
      have HB7 : Hid (Below w.heap.size w w7) := Lib.hid (HB2.out.trans (HC7.out.mono hz2))
      have hz7 := HC7.out.size
      have HTE := Lib.hid (one_textY HTM.out)
      have HHL2 := Lib.hid (HBL.out (k + 1) (by omega))
      have HTX := Lib.hid (txt_lenY HTM.out)
      rw [HTE.out.1, HTE.out.2]
      clear hb m0 m1 m2 m3
      obtain ⟨tx, htx⟩ : ∃ tx : ByteArray, (⟨(txt tk).toArray⟩ : ByteArray) = tx := ⟨_, rfl⟩
      rw [show strV (txt tk) = .string tx from by rw [← htx]]
      have hl1 : tx.size ≤ 45 := by rw [← htx, len_mk]; exact HTX.out
      have hl1' : ¬ (100 : Int) < (tx.size : Int) := by omega
      have HTXE := Lib.hid htx
      clear htx
      have HFIN : Hid (∀ q : Nat, gapY us k = gaps5.getD q [] → ∀ gx : ByteArray, strV (gaps5.getD q []) = .string gx → Value.string (hx ++ (gx ++ tx)) = strV (bodyY T us (k + 1))) := Lib.hid (by
        intro q hq gx hgx
        rw [HSU.out, HTK.out, hq, strV_appY, HHX.out]
        have h1 := strV_appY (gaps5.getD q []) (txt tk)
        unfold strV at h1 hgx
        injection h1 with h1
        injection hgx with hgx
        rw [h1, hgx, HTXE.out])
      have HGL : Hid (∀ q : Nat, q < 5 → ∀ gx : ByteArray, strV (gaps5.getD q []) = .string gx → gx.size ≤ 8) := Lib.hid (by
        intro q hq gx hgx
        unfold strV at hgx
        injection hgx with hgx
        rw [← hgx, len_mk]
        exact gaps5_len q hq)
      by_cases hku : k < us.length
      · obtain ⟨b', off', u, rfl, bb', hue, u1, u2, uc⟩ := (HU2.out.below HC7.out hz2').cell hku
        obtain ⟨q, hq⟩ : ∃ q : Nat, u % 5 = (q : Int) := ⟨(u % 5).toNat, by omega⟩
        have hq5 : q < 5 := by omega
        have hq6 : (q : Int) < 5 := by omega
        have hqt : u.tmod 5 = (q : Int) := by rw [Int.tmod_eq_emod_of_nonneg u1]; exact hq
        obtain ⟨gx, hgx⟩ : ∃ gx, strV (gaps5.getD q []) = .string gx := ⟨_, rfl⟩
        have hidx := fun w => index_gap (w := w) (q := q) hq5
        rw [hgx] at hidx
        have HN := Lib.hid (HFIN.out q (gapY_some hku (by rw [← hue]; exact hq)) gx hgx)
        have hgl := HGL.out q hq5 gx hgx
        clear hgx hue hq
        go_wp2
        go_roundw
        case rel => exact ⟨k + 1, by omega, by go_num, HN.out, HC7.out⟩
        case measure => simp [intOf]; omega
      · obtain ⟨gx, hgx⟩ : ∃ gx, strV (gaps5.getD 0 []) = .string gx := ⟨_, rfl⟩
        have hidx := fun w => index_gap (w := w) (q := 0) (by omega)
        rw [hgx, show ((0 : Nat) : Int) = 0 from rfl] at hidx
        have HN := Lib.hid (HFIN.out 0 (gapY_none hku) gx hgx)
        have hgl := HGL.out 0 (by omega) gx hgx
        clear hgx
        go_wp2
        go_roundw
        case rel => exact ⟨k + 1, by omega, by go_num, HN.out, HC7.out⟩
        case measure => simp [intOf]; omega
    · obtain rfl : k = T.length := by omega
      obtain ⟨z1, z2⟩ := HSP.out HAL.out trivial
      have hdat : (hx ++ (⟨#[10]⟩ : ByteArray)).data.toList = bodyY T us T.length ++ [10] := by
        rw [ByteArray.data_append, ← HHX.out]
        simp
      have hsz : (hx ++ (⟨#[10]⟩ : ByteArray)).size ≤ 60000 := by rw [ByteArray.size_append]; show hx.size + 1 ≤ _; omega
      rw [← hdat] at z1 z2
      have HZ1 := Lib.hid z1
      have HZ2 := Lib.hid z2
      have HBW : Hid (Below w.heap.size w wr) := Lib.hid (HB2.out.trans (HBR.out.mono hz2))
      clear z1 z2 hdat
      go_wp2_with fail
      refine (parse_any s wr (HL0.out.below HBW.out h4) (by omega)).mono ?_
      rintro e w8 ⟨v8, he, ho, hb⟩
      rw [hA] at he ho
      have HB8 : Hid (Below w.heap.size w w8) := Lib.hid (HBW.out.trans (hb.mono HBW.out.size))
      have HX8 := Lib.hid (ownWs_is ho)
      obtain ⟨a8, c8, rfl⟩ := ho.form
      subst he
      clear ho hb
      have hl10 : (hx.size : Int) + 1 ≤ 60000 := by omega
      go_wp2_with fail
      refine (parse_any (hx ++ (⟨#[10]⟩ : ByteArray)) w8 (HL0.out.below HB8.out h4) (by omega)).mono ?_
      rintro e w9 ⟨v9, he, ho, hb⟩
      rw [HZ1.out] at he
      rw [HZ2.out] at ho
      have HB9 : Hid (Below w.heap.size w w9) := Lib.hid (HB8.out.trans (hb.mono HB8.out.size))
      have HX9 : Hid (IsWishes w9.heap.size w9 _ (parL A)) := Lib.hid ((IsRecs.below wishK HX8.out hb (Nat.le_refl _)).mono wishK hb.size)
      have HY9 := Lib.hid (ownWs_is ho)
      obtain ⟨a9, c9, rfl⟩ := ho.form
      obtain ⟨PP, hPP⟩ : ∃ P, parP (hx ++ (⟨#[10]⟩ : ByteArray)).data.toList = P := ⟨_, rfl⟩
      rw [hPP] at he
      subst he
      clear ho hb hPP
      go_wp2_with fail
      refine (rsame17_any w9.heap.size w9 _ _ (parL A) (parL A) (Nat.le_refl _) HX9.out HY9.out).mono ?_
      rintro e w10 ⟨rfl, hb⟩
      have HB10 : Hid (Below w.heap.size w w10) := Lib.hid (HB9.out.trans (hb.mono HB9.out.size))
      rw [show sameWs (parL A) (parL A) = true from by unfold sameWs; simp]
      clear hb
      go_wp2
      go_ret
      exact ⟨by simp, HB10.out⟩
end Go.Proofs.YtfnmidddgjlipaaDoor

/-
  SyntaxSpaces holds, and its card: for all arguments the law returns true, and the arguments read as before.
  Conditions: what the row lists of package-level variables; the card ties that to the program's text.
-/
set_option linter.unusedVariables false
set_option linter.unusedSimpArgs false
namespace Go.Proofs.YtfnmidddgjlipaaDoor
open Go.ChangeShapes Go.WideShapes Go.ChangeAt Go.RowKit
open Go.ChangeMaps (open_string shut_string)

set_option maxRecDepth 100000 in
theorem syntaxSpaces_lifted (os : Os) (started : os.Started) (H : Type) (enc : TypeId × Value → H) :
    ReturnsInHanded {} Tryd.checked os 4 .any (fun w args => (Rows.syntaxSpacesSpec.pre enc Tryd.prog Tryd.f4 Rows.syntaxSpacesRow.domain false w args ∧ laidMetH Tryd.prog laid5 w) ∧ sizedMet enc Tryd.prog Tryd.f4 (OpenSpec.ofChange Rows.syntaxSpacesSpec) false w args)
      (Rows.syntaxSpacesSpec.post enc Tryd.prog Tryd.f4 false true false false) := by
  refine returnsInHanded_of_change_and (C := Tryd.checked) (X := fun w _ => laidMetH Tryd.prog laid5 w) (fun _ _ _ hh h => h.of_heap hh) seat_own started (by kernel_rfl) Tryd.func4
    (ChangeSpec.witness_shaped (enc := enc) (C := Tryd.checked) (os := os) (X := fun w _ => laidMetH Tryd.prog laid5 w) false (World.doorLaid Tryd.prog 400 os) #[.string ByteArray.empty, .slice none 0 0] 8 rfl (World.shaped_of_RefB (by kernel_rfl) (by kernel_rfl)) (by kernel_rfl) (by kernel_rfl) (by kernel_rfl) (door_met os _)) ?_
  intro W base args ds gs before hval0 hW _ hsz0 hL0 _
  have hsz : (DataW.weightsEach Tryd.prog (Tryd.f4.params.toList ++ Rows.syntaxSpacesSpec.plain.varTypes Tryd.prog) (ds ++ gs)).all (· ≤ reachBytes) = true := hsz0
  have hval : ∀ (j : Nat) t v, Tryd.f4.params[j]? = some t → args[j]? = some v → Value.okWide Tryd.prog W .any base t v := hval0
  have HL := laid_of hL0
  have hW' := hW
  obtain ⟨p, q, hA0, hV, rfl, hfz, hnd⟩ := hW
  have hA : DataW.TrodAll enc Tryd.prog W 0 (fun _ => true) true Tryd.f4.params.toList args.toList ds p := hA0
  rw [Tryd.params4] at hA hval hsz
  obtain ⟨v0, vs0, d0, ds0, p0, q0, e0, rfl, rfl, h0, r0⟩ := trodAll_cons hA
  obtain ⟨v1, vs1, d1, ds1, p1, q1, rfl, rfl, rfl, h1, r1⟩ := trodAll_cons r0
  obtain ⟨rfl, rfl, rfl⟩ := trodAll_nil r1
  obtain rfl : args = #[v0, v1] := by cases args; simp_all
  obtain ⟨rfl, rfl⟩ := trodVars_none hV
  have hw : ∀ n ∈ DataW.weightsEach Tryd.prog [9, 32] [d0, d1], n ≤ reachBytes := by
    intro n hn
    have := List.all_eq_true.1 hsz n hn
    simpa using this
  have z_s : d0.weights Tryd.prog 9 = d0.weights Tryd.prog 9 := rfl
  obtain ⟨s, rfl, hd_s, hp_s, s_s⟩ := open_string Tryd.underlying9 (hval 0 9 v0 rfl rfl) h0
  have b_s : s.size ≤ 140737488351232 := str_bound (d := d0) hd_s (fun n hn => hw n (DataW.weights_mem_each (j := 0) (t := 9) rfl rfl n hn))
  obtain ⟨us, h_us⟩ := open_IsBytes (hval 1 32 v1 rfl rfl) h1 (fun n hn => hw n (DataW.weights_mem_each (j := 1) (t := 32) rfl rfl n hn))
  have hlt := hW'.lt
  simp only [List.append_nil] at hW' hlt
  refine (syntaxSpaces_any W.heap.size s _ us W HL b_s (Nat.le_refl _) h_us).mono fun e W' ⟨he, hb⟩ => ?_
  subst he
  refine ⟨_, rfl, _, _, _, [], p0 ++ (p1 ++ []), [], hW', trodAll_mk1 (shut_bool Tryd.underlying4 _), ?_, rfl, hb.frame _, fun h => by cases h⟩
  exact trodAll_cons_mk (hb.trod seat_laidOut (by kernel_rfl) (of_decide_eq_true (by kernel_rfl)) h0 (fun x hx => hlt x (by simp [hx]))) 
    (trodAll_cons_mk (hb.trod seat_laidOut (by kernel_rfl) (of_decide_eq_true (by kernel_rfl)) h1 (fun x hx => hlt x (by simp [hx]))) trodAll_mk0)

theorem syntaxSpaces_row : Rows.SyntaxSpacesSaid :=
  OpenClaim.holds_of_wide 4 Tryd.f4 rfl rfl rfl rfl rfl rfl rfl ⟨rfl, rfl, rfl, rfl, rfl⟩ rfl rfl rfl rfl rfl (by kernel_rfl) Tryd.func4 (by kernel_rfl)
    (of_decide_eq_true (by kernel_rfl)) (by unfold Func.isWrapper; first | (rw [if_pos (by decide +kernel)]; kernel_rfl) | (rw [if_neg (by decide +kernel)]; exact ⟨rfl, rfl⟩))
    (fun os started H enc _ => syntaxSpaces_lifted os started H enc)

theorem syntaxSpaces_holds : Rows.SyntaxSpacesCardSaid :=
  Claim7.holds_tied_plain_at .later [] [.data, .data, .data, .sentinel, .sentinel] true (true, "da7a53e2027b82d315f4c166b4b434db3249eefb495583a5a09f6f3e4ee5379c") true
    syntaxSpaces_row (fun _ h => by cases h) (by kernel_rfl) (fun _ h => by cases h) syntaxSpaces_row_tie rfl ⟨rfl, rfl⟩ (by kernel_rfl) rfl
    (fun f fn hf hfn => by
      obtain rfl : f = 4 := Option.some.inj ((show Tryd.prog.funcNamed Rows.syntaxSpacesRow.func = some 4 by kernel_rfl).symm.trans hf) |>.symm
      obtain rfl : fn = Tryd.f4 := (Option.some.inj (Tryd.func4.symm.trans hfn)).symm
      exact ⟨by kernel_rfl, fun j t ht => by
        rw [Tryd.params4] at ht
        have hm : t ∈ [9, 32] := by simpa using Array.mem_of_getElem? ht
        have hall : ([9, 32].all fun u => !Tryd.prog.wantsStandIn u) = true := by kernel_rfl
        exact (show Tryd.prog.wantsStandIn t = false by simpa using List.all_eq_true.1 hall t hm)⟩)
    (by kernel_rfl)

end Go.Proofs.YtfnmidddgjlipaaDoor
