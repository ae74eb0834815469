/-
  SyntaxCut holds, and its card: for all arguments the law returns true, and the arguments read as before.
  Conditions: what the row lists of package-level variables; the card ties that to the program's text.
-/
import Derived.Test.YtfnmidddgjlipaaDoorY13
import Derived.Test.YtfnmidddgjlipaaDoorY21
import Derived.Test.YtfnmidddgjlipaaDoorLd
import Derived.Test.YtfnmidddgjlipaaDoorCards
import Derived.Test.YtfnmidddgjlipaaDoorTie
import Derived.SevenTiedAt
/-
  Layer 17, plain: the orders of two sources, one after the other.
-/
set_option linter.unusedVariables false
set_option linter.unusedSimpArgs false
namespace Go.Proofs.YtfnmidddgjlipaaDoor

theorem suffix_drop {α : Type} {r l : List α} (h : r <:+ l) : r = l.drop (l.length - r.length) := by
  obtain ⟨p, rfl⟩ := h
  simp
/-- tokens at other places: the same orders, the same wrong token -/
theorem read_map (g : Tok → Tok) (hg : ∀ t, erase (g t) = erase t) (l : List Tok) : pRead (l.map g) = match pRead l with
    | .error r => .error (r.map g)
    | .ok xs => .ok xs := by
  have h := eras_read (l := l.map g) (l' := l) (by rw [List.map_map]; congr 1; funext t; exact hg t)
  cases e1 : pRead (l.map g) with
  | error r1 =>
    cases e2 : pRead l with
    | error r2 =>
      rw [e1, e2] at h
      have hl : r1.length = r2.length := by have := congrArg List.length (show r1.map erase = r2.map erase from h); simpa using this
      have s1 := suffix_drop (read_end _ _ (Nat.le_refl _) _ e1)
      have s2 := suffix_drop (read_end _ _ (Nat.le_refl _) _ e2)
      simp only
      rw [s1, s2, List.length_map, hl, List.map_drop]
    | ok x2 => rw [e1, e2] at h; exact h.elim
  | ok x1 =>
    cases e2 : pRead l with
    | error r2 => rw [e1, e2] at h; exact h.elim
    | ok x2 => rw [e1, e2] at h; exact congrArg _ h
theorem parL_bad {s : List UInt8} (h : parE s ≠ 0) : parL s = [] := by
  unfold parE at h
  unfold parL
  by_cases h0 : lexE s = 0
  · rw [if_pos h0] at h ⊢
    unfold readE at h
    unfold readL
    cases e : pRead (lexT s) with
    | ok xs => rw [e] at h; exact absurd rfl h
    | error r => rfl
  · rw [if_neg h0]
theorem lex_out {s : List UInt8} (hs : s.length ≤ 65536) : (∃ i, (lexA s 0).2 = some i ∧ lexE s = 30 ∧ lexP s = i ∧ lexT s = []) ∨ ((lexA s 0).2 = none ∧ lexE s = 0 ∧ lexP s = 0 ∧ lexT s = (lexA s 0).1) := by
  have h : ¬ s.length > 65536 := by omega
  unfold lexE lexP lexT
  rw [if_neg h, if_neg h, if_neg h]
  cases e : (lexA s 0).2 with
  | none => right; simp
  | some i => left; exact ⟨i, rfl, by simp, by simp, by simp⟩
theorem joined_law {a b : List UInt8} (ha : a.length ≤ 2000) (hb : b.length ≤ 2000) (he : parE a = 0) :
    (parE b ≠ 0 → parE (a ++ 10 :: b) = parE b ∧ parP (a ++ 10 :: b) = parP b + a.length + 1 ∧ parL (a ++ 10 :: b) = []) ∧
    (parE b = 0 → parE (a ++ 10 :: b) = 0 ∧ parP (a ++ 10 :: b) = 0 ∧ parL (a ++ 10 :: b) = parL a ++ parL b) := by
  have hc : (a ++ 10 :: b).length ≤ 65536 := by simp; omega
  have hla : lexE a = 0 := by
    rcases lex_out (show a.length ≤ 65536 by omega) with ⟨i, h1, h2, h3, h4⟩ | ⟨h1, h2, _⟩
    · unfold parE at he; rw [if_neg (by rw [h2]; decide), h2] at he; cases he
    · exact h2
  obtain ⟨a1, a2, a3, a4⟩ : (lexA a 0).2 = none ∧ lexE a = 0 ∧ lexP a = 0 ∧ lexT a = (lexA a 0).1 := by
    rcases lex_out (show a.length ≤ 65536 by omega) with ⟨i, h1, h2, h3, h4⟩ | h
    · rw [h2] at hla; cases hla
    · exact h
  have hra : ∃ xs, pRead (lexT a) = .ok xs := by
    unfold parE at he
    rw [if_pos hla] at he
    unfold readE at he
    cases e : pRead (lexT a) with
    | ok xs => exact ⟨xs, rfl⟩
    | error r => rw [e] at he; cases he
  obtain ⟨xs, hxs⟩ := hra
  have hj := lexA_join b a 0
  rw [a1] at hj
  simp only at hj
  have hsh := lexA_shift (a.length + 1) b 0
  rw [show 0 + a.length + 1 = 0 + (a.length + 1) by omega, hsh] at hj
  have hLa : parL a = xs := by unfold parL readL; rw [if_pos hla, hxs]
  rcases lex_out (show b.length ≤ 65536 by omega) with ⟨i, b1, b2, b3, b4⟩ | ⟨b1, b2, b3, b4⟩
  · rw [b1] at hj
    simp only [Option.map_some] at hj
    have hpe : parE b = 30 := by unfold parE; rw [if_neg (by rw [b2]; decide), b2]
    have hpp : parP b = i := by unfold parP; rw [if_neg (by rw [b2]; decide), b3]
    rcases lex_out hc with ⟨k, c1, c2, c3, c4⟩ | ⟨c1, _⟩
    · rw [hj] at c1
      simp only [Option.some.injEq] at c1
      refine ⟨fun _ => ⟨?_, ?_, ?_⟩, fun h => by rw [hpe] at h; cases h⟩
      · unfold parE; rw [if_neg (by rw [c2]; decide), c2]; exact hpe.symm
      · unfold parP; rw [if_neg (by rw [c2]; decide), c3]
        unfold parP at hpp
        rw [hpp]
        omega
      · unfold parL; rw [if_neg (by rw [c2]; decide)]
    · rw [hj] at c1; cases c1
  · rw [b1] at hj
    simp only [Option.map_none] at hj
    rcases lex_out hc with ⟨k, c1, _⟩ | ⟨c1, c2, c3, c4⟩
    · rw [hj] at c1; cases c1
    have hT : lexT (a ++ 10 :: b) = lexT a ++ (lexT b).map (shiftT (a.length + 1)) := by rw [c4, hj, a4, b4]
    have hm := read_map (shiftT (a.length + 1)) (fun t => rfl) (lexT b)
    have hr := read_app _ (lexT a) ((lexT b).map (shiftT (a.length + 1))) xs (Nat.le_refl _) hxs
    rw [hm] at hr
    cases eb : pRead (lexT b) with
    | error r =>
      rw [eb] at hr
      simp only at hr
      have hpe : parE b = 170 := by unfold parE readE; rw [if_pos b2, eb]
      have hpp : parP b = placeOf b.length r := by unfold parP readP; rw [if_pos b2, eb]
      refine ⟨fun _ => ⟨?_, ?_, ?_⟩, fun h => by rw [hpe] at h; cases h⟩
      · unfold parE readE; rw [if_pos c2, hT, hr]; exact hpe.symm
      · unfold parP readP; rw [if_pos c2, hT, hr]
        unfold parP readP at hpp
        rw [hpp]
        cases r with
        | nil => simp [placeOf]; omega
        | cons t u => simp [placeOf, shiftT]; omega
      · unfold parL readL; rw [if_pos c2, hT, hr]
    | ok ys =>
      rw [eb] at hr
      simp only at hr
      have hpe : parE b = 0 := by unfold parE readE; rw [if_pos b2, eb]
      have hLb : parL b = ys := by unfold parL readL; rw [if_pos b2, eb]
      refine ⟨fun h => absurd hpe h, fun _ => ⟨?_, ?_, ?_⟩⟩
      · unfold parE readE; rw [if_pos c2, hT, hr]
      · unfold parP readP; rw [if_pos c2, hT, hr]
      · rw [hLa, hLb]; unfold parL readL; rw [if_pos c2, hT, hr]
theorem read_len : ∀ (n : Nat) (l : List Tok) (xs : List WishD), l.length ≤ n → pRead l = .ok xs → xs.length ≤ l.length
  | _, [], xs, _, h => by cases h; simp
  | 0, t :: u, xs, hn, h => by simp at hn
  | n + 1, t :: u, xs, hn, h => by
    rw [read_cons (by simp)] at h
    cases e : pOrder (t :: u) with
    | error s => rw [e] at h; cases h
    | ok v =>
      obtain ⟨x, r⟩ := v
      rw [e] at h
      simp only at h
      obtain ⟨t', u', he, hsf⟩ := order_some e
      injection he with _ he
      subst he
      have hlen := hsf.length_le
      simp only [List.length_cons] at hn
      cases e2 : pRead r with
      | error s => rw [e2] at h; cases h
      | ok ys =>
        rw [e2] at h
        cases h
        have := read_len n r ys (by omega) e2
        simp only [List.length_cons]
        omega
theorem lexT_short (l : List UInt8) : (lexT l).length ≤ l.length := by
  unfold lexT
  split
  · simp
  · split
    · exact lexA_len l 0
    · simp
theorem parL_len (s : List UInt8) : (parL s).length ≤ s.length := by
  unfold parL
  split
  · unfold readL
    cases e : pRead (lexT s) with
    | error r => simp
    | ok xs =>
      have := read_len _ _ _ (Nat.le_refl _) e
      have := lexT_short s
      simp only
      omega
  · simp
theorem lexA_posY (l : List UInt8) : ∀ at_ : Nat, ∀ t ∈ (lexA l at_).1, (at_ : Int) ≤ t.pos ∧ t.pos < (at_ : Int) + l.length := by
  refine lex_induct (P := fun l => ∀ at_ : Nat, ∀ t ∈ (lexA l at_).1, (at_ : Int) ≤ t.pos ∧ t.pos < (at_ : Int) + l.length) ?_ ?_ ?_ l
  · intro at_ t h; rw [lexA_nil] at h; cases h
  · intro l hl h at_ t ht; rw [lexA_bad hl h] at ht; cases ht
  · intro l k o h ih at_ t ht
    have h1 := step_pos h
    rw [lexA_step h] at ht
    have key : ∀ t ∈ (lexA (l.drop k) (at_ + k)).1, (at_ : Int) ≤ t.pos ∧ t.pos < (at_ : Int) + l.length := by
      intro t ht
      have := ih (at_ + k) t ht
      rw [List.length_drop] at this
      omega
    cases o with
    | none => exact key t ht
    | some u =>
      rcases List.mem_cons.1 ht with rfl | ht
      · simp only; omega
      · exact key t ht
theorem parP_bd {s : List UInt8} (hs : s.length ≤ 65536) : 0 ≤ parP s ∧ parP s ≤ s.length := by
  unfold parP
  rcases lex_out hs with ⟨i, h1, h2, h3, h4⟩ | ⟨h1, h2, h3, h4⟩
  · rw [if_neg (by rw [h2]; decide), h3]
    have := (lexA_err s 0 i h1).2.1
    omega
  · rw [if_pos h2]
    unfold readP
    cases e : pRead (lexT s) with
    | ok xs => simp
    | error r =>
      cases r with
      | nil => simp [placeOf]
      | cons t u =>
        have hm := (read_end _ _ (Nat.le_refl _) _ e).subset (List.mem_cons_self ..)
        rw [h4] at hm
        have := lexA_posY s 0 t hm
        simp only [placeOf]
        omega
end Go.Proofs.YtfnmidddgjlipaaDoor

/-
  Layer 17, plain: sources printed from tokens; a token cut off or changed.
-/
set_option linter.unusedVariables false
set_option linter.unusedSimpArgs false
namespace Go.Proofs.YtfnmidddgjlipaaDoor

theorem textL_ofY {l : List Tok} (hv : ∀ t ∈ l, validB t = true) : textL l = joinW (l.map txt) := by
  unfold textL
  rw [if_pos (by simpa using hv)]
theorem textE_ofY {l : List Tok} (hv : ∀ t ∈ l, validB t = true) : textE l = 0 := by
  unfold textE
  rw [if_pos (by simpa using hv)]
theorem valid_short {t : Tok} (hv : validB t = true) : t.text.length ≤ 1000 := by
  rcases valid_kind hv with hk | hk | hk
  · have := (valid_name hv hk).1
    match hx : t.text, this with
    | c :: r, this => simp only [nameB, Bool.and_eq_true, decide_eq_true_eq] at this; omega
  · rw [(valid_num hv hk).1]; simp
  · obtain ⟨c, hc, _⟩ := valid_sgn hv hk
    rw [hc]; simp
/-- tokens printed are the tokens, apart from their places -/
theorem text_lex {l : List Tok} (hv : ∀ t ∈ l, validB t = true) (hs : (textL l).length ≤ 65536) :
    lexE (textL l) = 0 ∧ (lexT (textL l)).map erase = l.map erase ∧ lexT (textL l) = (lexA (textL l) 0).1 := by
  have h := lexA_joinW l 0 hv
  rw [← textL_ofY hv] at h
  rcases lex_out hs with ⟨i, h1, _⟩ | ⟨h1, h2, h3, h4⟩
  · rw [h.2] at h1; cases h1
  · exact ⟨h2, by rw [h4]; exact h.1, h4⟩
theorem readE_eras {l l' : List Tok} (h : l.map erase = l'.map erase) : readE l = readE l' := by
  have := eras_read h
  unfold readE
  cases e : pRead l with
  | error r => cases e' : pRead l' with
    | error r' => rfl
    | ok x' => rw [e, e'] at this; exact this.elim
  | ok x => cases e' : pRead l' with
    | error r' => rw [e, e'] at this; exact this.elim
    | ok x' => rfl
theorem readL_eras {l l' : List Tok} (h : l.map erase = l'.map erase) : readL l = readL l' := by
  have := eras_read h
  unfold readL
  cases e : pRead l with
  | error r => cases e' : pRead l' with
    | error r' => rfl
    | ok x' => rw [e, e'] at this; exact this.elim
  | ok x => cases e' : pRead l' with
    | error r' => rw [e, e'] at this; exact this.elim
    | ok x' => rw [e, e'] at this; exact this
/-- a source printed from tokens parses as the tokens are read -/
theorem text_parse {l : List Tok} (hv : ∀ t ∈ l, validB t = true) (hs : (textL l).length ≤ 65536) :
    parE (textL l) = readE l ∧ parL (textL l) = readL l := by
  obtain ⟨h1, h2, _⟩ := text_lex hv hs
  unfold parE parL
  rw [if_pos h1, if_pos h1]
  exact ⟨readE_eras h2, readL_eras h2⟩
theorem parP_ok {s : List UInt8} (h : parE s = 0) : parP s = 0 := by
  unfold parE at h
  unfold parP
  by_cases h0 : lexE s = 0
  · rw [if_pos h0] at h ⊢
    unfold readE at h
    unfold readP
    cases e : pRead (lexT s) with
    | ok xs => rfl
    | error r => rw [e] at h; cases h
  · rw [if_neg h0] at h
    exact absurd h h0
theorem par_read {s : List UInt8} (hl : lexE s = 0) (h : parE s = 0) : ∃ xs, pRead (lexT s) = .ok xs := by
  unfold parE at h
  rw [if_pos hl] at h
  unfold readE at h
  cases e : pRead (lexT s) with
  | ok xs => exact ⟨xs, rfl⟩
  | error r => rw [e] at h; cases h
/-- what the parser says of printed tokens: nothing, or the place of the first wrong one -/
theorem text_wrong {l : List Tok} (hv : ∀ t ∈ l, validB t = true) (hs : (textL l).length ≤ 65536) :
    (parE (textL l) = 0 ∧ parP (textL l) = 0 ∧ ∃ xs, pRead l = .ok xs) ∨
    ∃ r, pRead l = .error r ∧ parE (textL l) = 170 ∧ parP (textL l) = placeOf (textL l).length ((lexT (textL l)).drop (l.length - r.length)) := by
  obtain ⟨h1, h2, _⟩ := text_lex hv hs
  have h := eras_read h2
  have hll : (lexT (textL l)).length = l.length := by have := congrArg List.length h2; simpa using this
  cases e : pRead l with
  | ok xs =>
    refine .inl ?_
    have hp : parE (textL l) = 0 := by rw [(text_parse hv hs).1]; unfold readE; rw [e]
    exact ⟨hp, parP_ok hp, xs, rfl⟩
  | error r =>
    refine .inr ⟨r, rfl, by rw [(text_parse hv hs).1]; unfold readE; rw [e], ?_⟩
    unfold parP readP
    rw [if_pos h1]
    cases e2 : pRead (lexT (textL l)) with
    | ok xs => rw [e, e2] at h; exact h.elim
    | error r2 =>
      rw [e, e2] at h
      have hl : r2.length = r.length := by have := congrArg List.length (show r2.map erase = r.map erase from h); simpa using this
      have s2 := suffix_drop (read_end _ _ (Nat.le_refl _) _ e2)
      simp only
      rw [s2, hl, hll]
theorem cut_law {L : List Tok} {xs : List WishD} (hv : ∀ t ∈ L, validB t = true) (h : pRead L = .ok xs) (k : Nat) (hs : (textL (L.take k)).length ≤ 65536) :
    (parE (textL (L.take k)) = 0 ∧ parP (textL (L.take k)) = 0) ∨ (parE (textL (L.take k)) = 170 ∧ parP (textL (L.take k)) = (textL (L.take k)).length) := by
  have hv' : ∀ t ∈ L.take k, validB t = true := fun t ht => hv t (List.mem_of_mem_take ht)
  rcases text_wrong hv' hs with ⟨h1, h2, _⟩ | ⟨r, h1, h2, h3⟩
  · exact .inl ⟨h1, h2⟩
  · refine .inr ⟨h2, ?_⟩
    rcases read_cut (a := L.take k) (b := L.drop k) (xs := xs) (by rw [List.take_append_drop]; exact h) with ⟨ys, e⟩ | e
    · rw [e] at h1; cases h1
    · rw [e] at h1
      cases h1
      have hll : (lexT (textL (L.take k))).length = (L.take k).length := by have := congrArg List.length (text_lex hv' hs).2.1; simpa using this
      rw [h3, List.drop_eq_nil_of_le (by rw [hll]; simp)]
      rfl
/-- the tokens behind the first i of them lie behind the text of these -/
theorem join_pos : ∀ (l : List Tok) (i at_ : Nat), (∀ t ∈ l, validB t = true) → ∀ t ∈ (lexA (joinW (l.map txt)) at_).1.drop i, (at_ : Int) + (joinW ((l.take i).map txt)).length ≤ t.pos
  | l, 0, at_, h, t, ht => by
    have := lexA_posY _ _ t (by simpa using ht)
    simp [joinW]
    omega
  | [], i + 1, at_, h, t, ht => by simp [joinW, lexA_nil] at ht
  | [u], i + 1, at_, h, t, ht => by
    have := lexA_tok (t := u) (r := []) (h u (by simp)) rfl at_
    simp only [List.append_nil] at this
    simp only [List.map_cons, List.map_nil, joinW, this, lexA_nil, List.drop_succ_cons, List.drop_nil] at ht
    cases ht
  | u :: v :: r, i + 1, at_, h, t, ht => by
    have hu := lexA_tok (t := u) (r := 32 :: joinW ((v :: r).map txt)) (h u (by simp)) rfl at_
    have hs := lexA_spc (c := 32) (r := joinW ((v :: r).map txt)) (at_ := at_ + (txt u).length) rfl
    have ih := join_pos (v :: r) i (at_ + (txt u).length + 1) (fun x hx => h x (by simp at hx ⊢; right; exact hx)) t
    simp only [List.map_cons, joinW] at hu hs ih ht ⊢
    rw [hu, hs] at ht
    have := ih (by simpa using ht)
    cases i with
    | zero => simp [joinW] at this ⊢; omega
    | succ i => simp [joinW] at this ⊢; omega
theorem join_pre : ∀ (l : List (List UInt8)) (i : Nat), joinW (l.take i) <+: joinW l
  | l, 0 => by simp [joinW]
  | [], i + 1 => by simp [joinW]
  | [x], i + 1 => by simp [joinW]
  | x :: y :: r, 1 => by simp [joinW]
  | x :: y :: r, i + 2 => by
    have := join_pre (y :: r) (i + 1)
    simp only [List.take_succ_cons, joinW] at this ⊢
    obtain ⟨z, hz⟩ := this
    exact ⟨z, by rw [← hz]; simp⟩
theorem change_law {L : List Tok} {xs : List WishD} (hv : ∀ t ∈ L, validB t = true) (h : pRead L = .ok xs) {i : Nat} (hi : i < L.length) {o : Tok} (ho : validB o = true)
    (hs : (textL (L.set i o)).length ≤ 65536) :
    (parE (textL (L.set i o)) = 0 ∧ parP (textL (L.set i o)) = 0) ∨
    (parE (textL (L.set i o)) = 170 ∧ ((textL (L.take i)).length : Int) ≤ parP (textL (L.set i o)) ∧ parP (textL (L.set i o)) ≤ (textL (L.set i o)).length) := by
  have hv' : ∀ t ∈ L.set i o, validB t = true := fun t ht => by
    rcases List.mem_or_eq_of_mem_set ht with h | rfl
    · exact hv t h
    · exact ho
  have hvt : ∀ t ∈ L.take i, validB t = true := fun t ht => hv t (List.mem_of_mem_take ht)
  rcases text_wrong hv' hs with ⟨h1, h2, _⟩ | ⟨r, h1, h2, h3⟩
  · exact .inl ⟨h1, h2⟩
  · refine .inr ⟨h2, ?_, (parP_bd hs).2⟩
    have hsp : L.set i o = L.take i ++ o :: L.drop (i + 1) := by rw [List.set_eq_take_append_cons_drop, if_pos hi]
    have hsuf : r <:+ o :: L.drop (i + 1) := read_change (a := L.take i) (b := L.drop i) (xs := xs) (by rw [List.take_append_drop]; exact h) (by rw [← hsp]; exact h1)
    have hlen := hsuf.length_le
    simp only [List.length_cons, List.length_drop] at hlen
    have hli : i ≤ (L.set i o).length - r.length := by rw [List.length_set]; omega
    obtain ⟨d, hd⟩ : ∃ d, (L.set i o).length - r.length = i + d := ⟨_, (Nat.add_sub_cancel' hli).symm⟩
    rw [h3, hd, (text_lex hv' hs).2.2, ← List.drop_drop]
    have htk : (L.set i o).take i = L.take i := by rw [List.take_set]; exact List.set_eq_of_length_le (by simp; omega)
    rw [textL_ofY hvt, textL_ofY hv']
    have hpre := (join_pre ((L.set i o).map txt) i).length_le
    rw [← List.map_take, htk] at hpre
    cases e : List.drop d (List.drop i (lexA (joinW ((L.set i o).map txt)) 0).1) with
    | nil => simp only [placeOf]; omega
    | cons t u =>
      have hm : t ∈ (lexA (joinW ((L.set i o).map txt)) 0).1.drop i := List.mem_of_mem_drop (by rw [e]; exact List.mem_cons_self ..)
      have := join_pos _ i 0 hv' t hm
      rw [htk] at this
      simp only [placeOf]
      omega
theorem change_pre {L : List Tok} (hv : ∀ t ∈ L, validB t = true) {i : Nat} {o : Tok} (ho : validB o = true) : textL (L.take i) <+: textL (L.set i o) := by
  have hv' : ∀ t ∈ L.set i o, validB t = true := fun t ht => by
    rcases List.mem_or_eq_of_mem_set ht with h | rfl
    · exact hv t h
    · exact ho
  have hvt : ∀ t ∈ L.take i, validB t = true := fun t ht => hv t (List.mem_of_mem_take ht)
  rw [textL_ofY hvt, textL_ofY hv']
  have hpre := join_pre ((L.set i o).map txt) i
  rw [← List.map_take] at hpre
  have htk : (L.set i o).take i = L.take i := by rw [List.take_set]; exact List.set_eq_of_length_le (by simp; omega)
  rw [htk] at hpre
  exact hpre
end Go.Proofs.YtfnmidddgjlipaaDoor

/-
  Layer 17: the walk of SyntaxCut.
-/
set_option linter.unusedVariables false
set_option linter.unusedSimpArgs false
namespace Go.Proofs.YtfnmidddgjlipaaDoor
open Go.RowKit

theorem i64_wfY {n : Int} (h : (Lit.int .i64 n).wf = true) : I64 n := by
  simp [Lit.wf, IntKind.min, IntKind.max, IntKind.signed, IntKind.bits] at h
  unfold I64
  omega

theorem IsToks.take {B N k c : Nat} {w : World} {a : Option Addr} {T : List Tok} (h : IsToks B w (.slice a N c) T) (hN : T.length = N) (hk : k ≤ N) : IsToks B w (.slice a k c) (T.take k) := by
  subst hN
  obtain ⟨b, off, cap, ⟨a', e, h1, h1', h1''⟩, h2, h3, h4⟩ := h
  cases e
  refine ⟨b, off, c, ⟨a, ?_, ?_, h1', ?_⟩, ?_, fun t ht => h3 t (List.mem_of_mem_take ht), fun j hj => ?_⟩
  · rw [List.length_take, Nat.min_eq_left hk]
  · rw [List.length_take]; omega
  · rw [List.length_take, Nat.min_eq_left hk]
    rcases h1'' with h | h
    · exact .inl h
    · exact .inr (by omega)
  · rw [List.length_take]; omega
  · rw [List.length_take] at hj
    have e : tokAt (T.take k) j = tokAt T j := by
      unfold tokAt
      rw [List.getD_eq_getElem?_getD, List.getD_eq_getElem?_getD, List.getElem?_take, if_pos (by omega)]
    rw [e]
    exact h4 j (by omega)
theorem rem_slot (n : Int) (N : Nat) (hN : N ≤ 1000) : ∃ k : Nat, k ≤ N ∧ wrap64 ((IntKind.u64.wrap n).tmod ((N : Int) + 1)) = (k : Int) := by
  have h0 : 0 ≤ IntKind.u64.wrap n := by unfold IntKind.wrap; simp [IntKind.signed, IntKind.bits]; omega
  obtain ⟨u, hu⟩ : ∃ u : Nat, IntKind.u64.wrap n = (u : Int) := ⟨_, (Int.toNat_of_nonneg h0).symm⟩
  refine ⟨u % (N + 1), by have := Nat.mod_lt u (show 0 < N + 1 by omega); omega, ?_⟩
  have hlt := Nat.mod_lt u (show 0 < N + 1 by omega)
  rw [hu, Int.tmod_eq_emod_of_nonneg (by omega)]
  have e : ((u : Int) % ((N : Int) + 1)) = ((u % (N + 1) : Nat) : Int) := by simp
  rw [e]
  unfold wrap64
  omega

set_option maxHeartbeats 4000000 in
set_option maxRecDepth 100000 in
theorem syntaxCut_any (s : ByteArray) (n : Int) (w : World) (hL : LaidW w) (hs : s.size ≤ 140737488351232) (hn : I64 n) :
    Calls Tryd.prog 7 #[.string s, .int .i64 n] w fun e w' => e = .returned (.bool true) ∧ Below w.heap.size w w' := by
  have HL0 := Lib.hid hL
  have h4 := hL.size
  have hlen := size_data s
  clear hL
  go_enter Tryd.func7, Tryd.ntmps7
  go_wp2_with fail
  refine (sane17_any w HL0.out).mono ?_
  rintro e w1 ⟨rfl, hb⟩
  have HB1 := Lib.hid hb
  have HL1 := Lib.hid (HL0.out.below hb h4)
  clear hb
  obtain ⟨A, hA⟩ : ∃ A, s.data.toList = A := ⟨_, rfl⟩
  go_wp2_with fail
  refine (lex_any s w1 HL1.out (by omega)).mono ?_
  rintro e w2 ⟨v1, he, ho, hb⟩
  rw [hA] at he ho
  have HB2 : Hid (Below w.heap.size w w2) := Lib.hid (HB1.out.trans (hb.mono HB1.out.size))
  have HT := Lib.hid ho.isToks
  obtain ⟨a1, c1, rfl⟩ := ho.form
  obtain ⟨ET, hET⟩ : ∃ E, lexE A = E := ⟨_, rfl⟩
  obtain ⟨PT, hPT⟩ : ∃ E, lexP A = E := ⟨_, rfl⟩
  obtain ⟨T, hT⟩ : ∃ L, lexT A = L := ⟨_, rfl⟩
  rw [hET, hPT, hT] at he
  rw [hT] at HT
  subst he
  clear ho hb
  go_wp2_with fail
  refine (parse_any s w2 (HL0.out.below HB2.out h4) (by omega)).mono ?_
  rintro e w3 ⟨v2, he, ho, hb⟩
  rw [hA] at he ho
  have HB3 : Hid (Below w.heap.size w w3) := Lib.hid (HB2.out.trans (hb.mono HB2.out.size))
  have HT3 := Lib.hid ((HT.out.below hb (Nat.le_refl _)).mono hb.size)
  obtain ⟨EP, hEP⟩ : ∃ E, parE A = E := ⟨_, rfl⟩
  obtain ⟨PP, hPP⟩ : ∃ E, parP A = E := ⟨_, rfl⟩
  rw [hEP, hPP] at he
  subst he
  clear ho hb
  obtain ⟨N, hN⟩ : ∃ N, T.length = N := ⟨_, rfl⟩
  by_cases hc : 2000 < s.size ∨ ET ≠ 0 ∨ EP ≠ 0 ∨ 1000 < N
  · have key : (decide ((2000 : Int) < (s.size : Int)) || (ET != 0) || (EP != 0) || decide ((1000 : Int) < (N : Int))) = true := by
      simp only [Bool.or_eq_true, decide_eq_true_eq, bne_iff_ne]
      rcases hc with h | h | h | h
      · exact .inl (.inl (.inl (by omega)))
      · exact .inl (.inl (.inr h))
      · exact .inl (.inr h)
      · exact .inr (by omega)
    by_cases c1 : 2000 < s.size
    · have c1' : (2000 : Int) < (s.size : Int) := by omega
      clear key hc
      go_wp2
      go_ret
      exact ⟨rfl, HB3.out⟩
    have c1' : ¬ (2000 : Int) < (s.size : Int) := by omega
    by_cases c2 : ET = 0
    rotate_left
    · have c2' : (ET != 0) = true := by simpa using c2
      clear key hc
      go_wp2
      go_ret
      exact ⟨rfl, HB3.out⟩
    subst c2
    by_cases c3 : EP = 0
    rotate_left
    · have c3' : (EP != 0) = true := by simpa using c3
      clear key hc
      go_wp2
      go_ret
      exact ⟨rfl, HB3.out⟩
    subst c3
    have c4 : (1000 : Int) < (N : Int) := by
      rcases hc with h | h | h | h
      · omega
      · exact absurd rfl h
      · exact absurd rfl h
      · omega
    rw [hN]
    clear key hc
    go_wp2
    go_ret
    exact ⟨rfl, HB3.out⟩
  simp only [not_or, Decidable.not_not, Nat.not_lt] at hc
  obtain ⟨hs2, rfl, rfl, hN2⟩ := hc
  have c1' : ¬ (2000 : Int) < (s.size : Int) := by omega
  have c4' : ¬ (1000 : Int) < (N : Int) := by omega
  rw [hN]
  go_upto_region 7 with fail
  clear c1' c4'
  obtain ⟨k, hk1, hk2⟩ := rem_slot n N hN2
  have hcT : N ≤ c1 := by
    obtain ⟨a', c', e, h1, _⟩ := HT3.out.form
    rw [hN] at e h1
    injection e with _ _ e
    omega
  have hkc : k ≤ c1 := by omega
  go_wp2_with fail
  have hTv : ∀ t ∈ T, validB t = true := fun t ht => lexT_valid A t (by rw [hT]; exact ht)
  refine (text_any w3.heap.size w3 _ (T.take k) (HL0.out.below HB3.out h4) (Nat.le_refl _) (HT3.out.take rfl (by omega)) (by rw [List.length_take]; omega) (fun t ht => by have := valid_short (hTv t (List.mem_of_mem_take ht)); omega)).mono ?_
  rintro e w4 ⟨rfl, hb⟩
  have HB4 : Hid (Below w.heap.size w w4) := Lib.hid (HB3.out.trans (hb.mono HB3.out.size))
  rw [textE_ofY (fun t ht => hTv t (List.mem_of_mem_take ht))]
  obtain ⟨xs, hxs⟩ := par_read (s := A) hET hEP
  rw [hT] at hxs
  have HLAW := Lib.hid (fun h => cut_law hTv hxs k h)
  obtain ⟨S, hS⟩ : ∃ S : ByteArray, S.data.toList = textL (T.take k) := ⟨⟨(textL (T.take k)).toArray⟩, rfl⟩
  rw [← hS] at HLAW
  have hSV : strV (textL (T.take k)) = .string S := by rw [← hS]
  rw [hSV]
  have hSl := size_data S
  rw [hSl] at HLAW
  have HSL := Lib.hid hSl
  clear hb hxs hTv hSV hS hSl hk2 hcT hkc hk1
  by_cases hbig : 65536 < S.size
  · have hbig2 : (65536 : Int) < (S.size : Int) := by omega
    go_wp2
    go_ret
    exact ⟨rfl, HB4.out⟩
  have hbig2 : ¬ (65536 : Int) < (S.size : Int) := by omega
  go_wp2_with fail
  refine (parse_any S w4 (HL0.out.below HB4.out h4) (by omega)).mono ?_
  rintro e w5 ⟨v3, he, ho, hb⟩
  have HB5 : Hid (Below w.heap.size w w5) := Lib.hid (HB4.out.trans (hb.mono HB4.out.size))
  clear ho hb
  rcases HLAW.out (by omega) with ⟨j1, j2⟩ | ⟨j1, j2⟩
  · rw [j1, j2] at he
    subst he
    clear j1 j2 hbig hbig2
    go_wp2
    go_ret
    exact ⟨rfl, HB5.out⟩
  · rw [j1, j2] at he
    subst he
    clear j1 j2 hbig hbig2
    go_wp2
    go_ret
    exact ⟨by simp, HB5.out⟩
end Go.Proofs.YtfnmidddgjlipaaDoor

/-
  SyntaxCut holds, and its card: for all arguments the law returns true, and the arguments read as before.
  Conditions: what the row lists of package-level variables; the card ties that to the program's text.
-/
set_option linter.unusedVariables false
set_option linter.unusedSimpArgs false
namespace Go.Proofs.YtfnmidddgjlipaaDoor
open Go.ChangeShapes Go.WideShapes Go.ChangeAt Go.RowKit
open Go.ChangeMaps (open_string shut_string)

set_option maxRecDepth 100000 in
theorem syntaxCut_lifted (os : Os) (started : os.Started) (H : Type) (enc : TypeId × Value → H) :
    ReturnsInHanded {} Tryd.checked os 7 .any (fun w args => (Rows.syntaxCutSpec.pre enc Tryd.prog Tryd.f7 Rows.syntaxCutRow.domain false w args ∧ laidMetH Tryd.prog laid5 w) ∧ sizedMet enc Tryd.prog Tryd.f7 (OpenSpec.ofChange Rows.syntaxCutSpec) false w args)
      (Rows.syntaxCutSpec.post enc Tryd.prog Tryd.f7 false true false false) := by
  refine returnsInHanded_of_change_and (C := Tryd.checked) (X := fun w _ => laidMetH Tryd.prog laid5 w) (fun _ _ _ hh h => h.of_heap hh) seat_own started (by kernel_rfl) Tryd.func7
    (ChangeSpec.witness_shaped (enc := enc) (C := Tryd.checked) (os := os) (X := fun w _ => laidMetH Tryd.prog laid5 w) false (World.doorLaid Tryd.prog 400 os) #[.string ByteArray.empty, .int .i64 0] 8 rfl (World.shaped_of_RefB (by kernel_rfl) (by kernel_rfl)) (by kernel_rfl) (by kernel_rfl) (by kernel_rfl) (door_met os _)) ?_
  intro W base args ds gs before hval0 hW _ hsz0 hL0 _
  have hsz : (DataW.weightsEach Tryd.prog (Tryd.f7.params.toList ++ Rows.syntaxCutSpec.plain.varTypes Tryd.prog) (ds ++ gs)).all (· ≤ reachBytes) = true := hsz0
  have hval : ∀ (j : Nat) t v, Tryd.f7.params[j]? = some t → args[j]? = some v → Value.okWide Tryd.prog W .any base t v := hval0
  have HL := laid_of hL0
  have hW' := hW
  obtain ⟨p, q, hA0, hV, rfl, hfz, hnd⟩ := hW
  have hA : DataW.TrodAll enc Tryd.prog W 0 (fun _ => true) true Tryd.f7.params.toList args.toList ds p := hA0
  rw [Tryd.params7] at hA hval hsz
  obtain ⟨v0, vs0, d0, ds0, p0, q0, e0, rfl, rfl, h0, r0⟩ := trodAll_cons hA
  obtain ⟨v1, vs1, d1, ds1, p1, q1, rfl, rfl, rfl, h1, r1⟩ := trodAll_cons r0
  obtain ⟨rfl, rfl, rfl⟩ := trodAll_nil r1
  obtain rfl : args = #[v0, v1] := by cases args; simp_all
  obtain ⟨rfl, rfl⟩ := trodVars_none hV
  have hw : ∀ n ∈ DataW.weightsEach Tryd.prog [9, 3] [d0, d1], n ≤ reachBytes := by
    intro n hn
    have := List.all_eq_true.1 hsz n hn
    simpa using this
  have z_s : d0.weights Tryd.prog 9 = d0.weights Tryd.prog 9 := rfl
  obtain ⟨s, rfl, hd_s, hp_s, s_s⟩ := open_string Tryd.underlying9 (hval 0 9 v0 rfl rfl) h0
  have b_s : s.size ≤ 140737488351232 := str_bound (d := d0) hd_s (fun n hn => hw n (DataW.weights_mem_each (j := 0) (t := 9) rfl rfl n hn))
  obtain ⟨n, rfl, _, _, w_n⟩ := open_int Tryd.underlying3 (hval 1 3 v1 rfl rfl) h1
  have hlt := hW'.lt
  simp only [List.append_nil] at hW' hlt
  refine (syntaxCut_any s n W HL b_s (i64_wfY w_n)).mono fun e W' ⟨he, hb⟩ => ?_
  subst he
  refine ⟨_, rfl, _, _, _, [], p0 ++ (p1 ++ []), [], hW', trodAll_mk1 (shut_bool Tryd.underlying4 _), ?_, rfl, hb.frame _, fun h => by cases h⟩
  exact trodAll_cons_mk (hb.trod seat_laidOut (by kernel_rfl) (of_decide_eq_true (by kernel_rfl)) h0 (fun x hx => hlt x (by simp [hx]))) 
    (trodAll_cons_mk (hb.trod seat_laidOut (by kernel_rfl) (of_decide_eq_true (by kernel_rfl)) h1 (fun x hx => hlt x (by simp [hx]))) trodAll_mk0)

theorem syntaxCut_row : Rows.SyntaxCutSaid :=
  OpenClaim.holds_of_wide 7 Tryd.f7 rfl rfl rfl rfl rfl rfl rfl ⟨rfl, rfl, rfl, rfl, rfl⟩ rfl rfl rfl rfl rfl (by kernel_rfl) Tryd.func7 (by kernel_rfl)
    (of_decide_eq_true (by kernel_rfl)) (by unfold Func.isWrapper; first | (rw [if_pos (by decide +kernel)]; kernel_rfl) | (rw [if_neg (by decide +kernel)]; exact ⟨rfl, rfl⟩))
    (fun os started H enc _ => syntaxCut_lifted os started H enc)

theorem syntaxCut_holds : Rows.SyntaxCutCardSaid :=
  Claim7.holds_tied_plain_at .later [] [.data, .data, .data, .sentinel, .sentinel] true (true, "da7a53e2027b82d315f4c166b4b434db3249eefb495583a5a09f6f3e4ee5379c") true
    syntaxCut_row (fun _ h => by cases h) (by kernel_rfl) (fun _ h => by cases h) syntaxCut_row_tie rfl ⟨rfl, rfl⟩ (by kernel_rfl) rfl
    (fun f fn hf hfn => by
      obtain rfl : f = 7 := Option.some.inj ((show Tryd.prog.funcNamed Rows.syntaxCutRow.func = some 7 by kernel_rfl).symm.trans hf) |>.symm
      obtain rfl : fn = Tryd.f7 := (Option.some.inj (Tryd.func7.symm.trans hfn)).symm
      exact ⟨by kernel_rfl, fun j t ht => by
        rw [Tryd.params7] at ht
        have hm : t ∈ [9, 3] := by simpa using Array.mem_of_getElem? ht
        have hall : ([9, 3].all fun u => !Tryd.prog.wantsStandIn u) = true := by kernel_rfl
        exact (show Tryd.prog.wantsStandIn t = false by simpa using List.all_eq_true.1 hall t hm)⟩)
    (by kernel_rfl)

end Go.Proofs.YtfnmidddgjlipaaDoor
