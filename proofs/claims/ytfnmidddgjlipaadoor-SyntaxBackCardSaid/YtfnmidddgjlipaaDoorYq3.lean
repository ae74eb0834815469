/-
  SyntaxBack holds, and its card: for all arguments the law returns true, and the arguments read as before.
  Conditions: what the row lists of package-level variables; the card ties that to the program's text.
-/
import Derived.Test.YtfnmidddgjlipaaDoorY13
import Derived.Test.YtfnmidddgjlipaaDoorY19
import Derived.Test.YtfnmidddgjlipaaDoorY21
import Derived.Test.YtfnmidddgjlipaaDoorLd
import Derived.Test.YtfnmidddgjlipaaDoorY2
import Derived.ProofKit
import Derived.SizedLaws
import Derived.Deep.Slices
import Derived.Deep.Strs
import Derived.Test.YtfnmidddgjlipaaDoorCards
import Derived.Test.YtfnmidddgjlipaaDoorTie
import Derived.SevenTiedAt
/-
  Layer 17, plain: the orders of two sources, one after the other.
-/
set_option linter.unusedVariables false
set_option linter.unusedSimpArgs false
namespace Go.Proofs.YtfnmidddgjlipaaDoor

theorem suffix_drop {α : Type} {r l : List α} (h : r <:+ l) : r = l.drop (l.length - r.length) := by
  obtain ⟨p, rfl⟩ := h
  simp
/-- tokens at other places: the same orders, the same wrong token -/
theorem read_map (g : Tok → Tok) (hg : ∀ t, erase (g t) = erase t) (l : List Tok) : pRead (l.map g) = match pRead l with
    | .error r => .error (r.map g)
    | .ok xs => .ok xs := by
  have h := eras_read (l := l.map g) (l' := l) (by rw [List.map_map]; congr 1; funext t; exact hg t)
  cases e1 : pRead (l.map g) with
  | error r1 =>
    cases e2 : pRead l with
    | error r2 =>
      rw [e1, e2] at h
      have hl : r1.length = r2.length := by have := congrArg List.length (show r1.map erase = r2.map erase from h); simpa using this
      have s1 := suffix_drop (read_end _ _ (Nat.le_refl _) _ e1)
      have s2 := suffix_drop (read_end _ _ (Nat.le_refl _) _ e2)
      simp only
      rw [s1, s2, List.length_map, hl, List.map_drop]
    | ok x2 => rw [e1, e2] at h; exact h.elim
  | ok x1 =>
    cases e2 : pRead l with
    | error r2 => rw [e1, e2] at h; exact h.elim
    | ok x2 => rw [e1, e2] at h; exact congrArg _ h
theorem parL_bad {s : List UInt8} (h : parE s ≠ 0) : parL s = [] := by
  unfold parE at h
  unfold parL
  by_cases h0 : lexE s = 0
  · rw [if_pos h0] at h ⊢
    unfold readE at h
    unfold readL
    cases e : pRead (lexT s) with
    | ok xs => rw [e] at h; exact absurd rfl h
    | error r => rfl
  · rw [if_neg h0]
theorem lex_out {s : List UInt8} (hs : s.length ≤ 65536) : (∃ i, (lexA s 0).2 = some i ∧ lexE s = 30 ∧ lexP s = i ∧ lexT s = []) ∨ ((lexA s 0).2 = none ∧ lexE s = 0 ∧ lexP s = 0 ∧ lexT s = (lexA s 0).1) := by
  have h : ¬ s.length > 65536 := by omega
  unfold lexE lexP lexT
  rw [if_neg h, if_neg h, if_neg h]
  cases e : (lexA s 0).2 with
  | none => right; simp
  | some i => left; exact ⟨i, rfl, by simp, by simp, by simp⟩
theorem joined_law {a b : List UInt8} (ha : a.length ≤ 2000) (hb : b.length ≤ 2000) (he : parE a = 0) :
    (parE b ≠ 0 → parE (a ++ 10 :: b) = parE b ∧ parP (a ++ 10 :: b) = parP b + a.length + 1 ∧ parL (a ++ 10 :: b) = []) ∧
    (parE b = 0 → parE (a ++ 10 :: b) = 0 ∧ parP (a ++ 10 :: b) = 0 ∧ parL (a ++ 10 :: b) = parL a ++ parL b) := by
  have hc : (a ++ 10 :: b).length ≤ 65536 := by simp; omega
  have hla : lexE a = 0 := by
    rcases lex_out (show a.length ≤ 65536 by omega) with ⟨i, h1, h2, h3, h4⟩ | ⟨h1, h2, _⟩
    · unfold parE at he; rw [if_neg (by rw [h2]; decide), h2] at he; cases he
    · exact h2
  obtain ⟨a1, a2, a3, a4⟩ : (lexA a 0).2 = none ∧ lexE a = 0 ∧ lexP a = 0 ∧ lexT a = (lexA a 0).1 := by
    rcases lex_out (show a.length ≤ 65536 by omega) with ⟨i, h1, h2, h3, h4⟩ | h
    · rw [h2] at hla; cases hla
    · exact h
  have hra : ∃ xs, pRead (lexT a) = .ok xs := by
    unfold parE at he
    rw [if_pos hla] at he
    unfold readE at he
    cases e : pRead (lexT a) with
    | ok xs => exact ⟨xs, rfl⟩
    | error r => rw [e] at he; cases he
  obtain ⟨xs, hxs⟩ := hra
  have hj := lexA_join b a 0
  rw [a1] at hj
  simp only at hj
  have hsh := lexA_shift (a.length + 1) b 0
  rw [show 0 + a.length + 1 = 0 + (a.length + 1) by omega, hsh] at hj
  have hLa : parL a = xs := by unfold parL readL; rw [if_pos hla, hxs]
  rcases lex_out (show b.length ≤ 65536 by omega) with ⟨i, b1, b2, b3, b4⟩ | ⟨b1, b2, b3, b4⟩
  · rw [b1] at hj
    simp only [Option.map_some] at hj
    have hpe : parE b = 30 := by unfold parE; rw [if_neg (by rw [b2]; decide), b2]
    have hpp : parP b = i := by unfold parP; rw [if_neg (by rw [b2]; decide), b3]
    rcases lex_out hc with ⟨k, c1, c2, c3, c4⟩ | ⟨c1, _⟩
    · rw [hj] at c1
      simp only [Option.some.injEq] at c1
      refine ⟨fun _ => ⟨?_, ?_, ?_⟩, fun h => by rw [hpe] at h; cases h⟩
      · unfold parE; rw [if_neg (by rw [c2]; decide), c2]; exact hpe.symm
      · unfold parP; rw [if_neg (by rw [c2]; decide), c3]
        unfold parP at hpp
        rw [hpp]
        omega
      · unfold parL; rw [if_neg (by rw [c2]; decide)]
    · rw [hj] at c1; cases c1
  · rw [b1] at hj
    simp only [Option.map_none] at hj
    rcases lex_out hc with ⟨k, c1, _⟩ | ⟨c1, c2, c3, c4⟩
    · rw [hj] at c1; cases c1
    have hT : lexT (a ++ 10 :: b) = lexT a ++ (lexT b).map (shiftT (a.length + 1)) := by rw [c4, hj, a4, b4]
    have hm := read_map (shiftT (a.length + 1)) (fun t => rfl) (lexT b)
    have hr := read_app _ (lexT a) ((lexT b).map (shiftT (a.length + 1))) xs (Nat.le_refl _) hxs
    rw [hm] at hr
    cases eb : pRead (lexT b) with
    | error r =>
      rw [eb] at hr
      simp only at hr
      have hpe : parE b = 170 := by unfold parE readE; rw [if_pos b2, eb]
      have hpp : parP b = placeOf b.length r := by unfold parP readP; rw [if_pos b2, eb]
      refine ⟨fun _ => ⟨?_, ?_, ?_⟩, fun h => by rw [hpe] at h; cases h⟩
      · unfold parE readE; rw [if_pos c2, hT, hr]; exact hpe.symm
      · unfold parP readP; rw [if_pos c2, hT, hr]
        unfold parP readP at hpp
        rw [hpp]
        cases r with
        | nil => simp [placeOf]; omega
        | cons t u => simp [placeOf, shiftT]; omega
      · unfold parL readL; rw [if_pos c2, hT, hr]
    | ok ys =>
      rw [eb] at hr
      simp only at hr
      have hpe : parE b = 0 := by unfold parE readE; rw [if_pos b2, eb]
      have hLb : parL b = ys := by unfold parL readL; rw [if_pos b2, eb]
      refine ⟨fun h => absurd hpe h, fun _ => ⟨?_, ?_, ?_⟩⟩
      · unfold parE readE; rw [if_pos c2, hT, hr]
      · unfold parP readP; rw [if_pos c2, hT, hr]
      · rw [hLa, hLb]; unfold parL readL; rw [if_pos c2, hT, hr]
theorem read_len : ∀ (n : Nat) (l : List Tok) (xs : List WishD), l.length ≤ n → pRead l = .ok xs → xs.length ≤ l.length
  | _, [], xs, _, h => by cases h; simp
  | 0, t :: u, xs, hn, h => by simp at hn
  | n + 1, t :: u, xs, hn, h => by
    rw [read_cons (by simp)] at h
    cases e : pOrder (t :: u) with
    | error s => rw [e] at h; cases h
    | ok v =>
      obtain ⟨x, r⟩ := v
      rw [e] at h
      simp only at h
      obtain ⟨t', u', he, hsf⟩ := order_some e
      injection he with _ he
      subst he
      have hlen := hsf.length_le
      simp only [List.length_cons] at hn
      cases e2 : pRead r with
      | error s => rw [e2] at h; cases h
      | ok ys =>
        rw [e2] at h
        cases h
        have := read_len n r ys (by omega) e2
        simp only [List.length_cons]
        omega
theorem lexT_short (l : List UInt8) : (lexT l).length ≤ l.length := by
  unfold lexT
  split
  · simp
  · split
    · exact lexA_len l 0
    · simp
theorem parL_len (s : List UInt8) : (parL s).length ≤ s.length := by
  unfold parL
  split
  · unfold readL
    cases e : pRead (lexT s) with
    | error r => simp
    | ok xs =>
      have := read_len _ _ _ (Nat.le_refl _) e
      have := lexT_short s
      simp only
      omega
  · simp
theorem lexA_posY (l : List UInt8) : ∀ at_ : Nat, ∀ t ∈ (lexA l at_).1, (at_ : Int) ≤ t.pos ∧ t.pos < (at_ : Int) + l.length := by
  refine lex_induct (P := fun l => ∀ at_ : Nat, ∀ t ∈ (lexA l at_).1, (at_ : Int) ≤ t.pos ∧ t.pos < (at_ : Int) + l.length) ?_ ?_ ?_ l
  · intro at_ t h; rw [lexA_nil] at h; cases h
  · intro l hl h at_ t ht; rw [lexA_bad hl h] at ht; cases ht
  · intro l k o h ih at_ t ht
    have h1 := step_pos h
    rw [lexA_step h] at ht
    have key : ∀ t ∈ (lexA (l.drop k) (at_ + k)).1, (at_ : Int) ≤ t.pos ∧ t.pos < (at_ : Int) + l.length := by
      intro t ht
      have := ih (at_ + k) t ht
      rw [List.length_drop] at this
      omega
    cases o with
    | none => exact key t ht
    | some u =>
      rcases List.mem_cons.1 ht with rfl | ht
      · simp only; omega
      · exact key t ht
theorem parP_bd {s : List UInt8} (hs : s.length ≤ 65536) : 0 ≤ parP s ∧ parP s ≤ s.length := by
  unfold parP
  rcases lex_out hs with ⟨i, h1, h2, h3, h4⟩ | ⟨h1, h2, h3, h4⟩
  · rw [if_neg (by rw [h2]; decide), h3]
    have := (lexA_err s 0 i h1).2.1
    omega
  · rw [if_pos h2]
    unfold readP
    cases e : pRead (lexT s) with
    | ok xs => simp
    | error r =>
      cases r with
      | nil => simp [placeOf]
      | cons t u =>
        have hm := (read_end _ _ (Nat.le_refl _) _ e).subset (List.mem_cons_self ..)
        rw [h4] at hm
        have := lexA_posY s 0 t hm
        simp only [placeOf]
        omega
end Go.Proofs.YtfnmidddgjlipaaDoor

/-
  Layer 17, plain: sources printed from tokens; a token cut off or changed.
-/
set_option linter.unusedVariables false
set_option linter.unusedSimpArgs false
namespace Go.Proofs.YtfnmidddgjlipaaDoor

theorem textL_ofY {l : List Tok} (hv : ∀ t ∈ l, validB t = true) : textL l = joinW (l.map txt) := by
  unfold textL
  rw [if_pos (by simpa using hv)]
theorem textE_ofY {l : List Tok} (hv : ∀ t ∈ l, validB t = true) : textE l = 0 := by
  unfold textE
  rw [if_pos (by simpa using hv)]
theorem valid_short {t : Tok} (hv : validB t = true) : t.text.length ≤ 1000 := by
  rcases valid_kind hv with hk | hk | hk
  · have := (valid_name hv hk).1
    match hx : t.text, this with
    | c :: r, this => simp only [nameB, Bool.and_eq_true, decide_eq_true_eq] at this; omega
  · rw [(valid_num hv hk).1]; simp
  · obtain ⟨c, hc, _⟩ := valid_sgn hv hk
    rw [hc]; simp
/-- tokens printed are the tokens, apart from their places -/
theorem text_lex {l : List Tok} (hv : ∀ t ∈ l, validB t = true) (hs : (textL l).length ≤ 65536) :
    lexE (textL l) = 0 ∧ (lexT (textL l)).map erase = l.map erase ∧ lexT (textL l) = (lexA (textL l) 0).1 := by
  have h := lexA_joinW l 0 hv
  rw [← textL_ofY hv] at h
  rcases lex_out hs with ⟨i, h1, _⟩ | ⟨h1, h2, h3, h4⟩
  · rw [h.2] at h1; cases h1
  · exact ⟨h2, by rw [h4]; exact h.1, h4⟩
theorem readE_eras {l l' : List Tok} (h : l.map erase = l'.map erase) : readE l = readE l' := by
  have := eras_read h
  unfold readE
  cases e : pRead l with
  | error r => cases e' : pRead l' with
    | error r' => rfl
    | ok x' => rw [e, e'] at this; exact this.elim
  | ok x => cases e' : pRead l' with
    | error r' => rw [e, e'] at this; exact this.elim
    | ok x' => rfl
theorem readL_eras {l l' : List Tok} (h : l.map erase = l'.map erase) : readL l = readL l' := by
  have := eras_read h
  unfold readL
  cases e : pRead l with
  | error r => cases e' : pRead l' with
    | error r' => rfl
    | ok x' => rw [e, e'] at this; exact this.elim
  | ok x => cases e' : pRead l' with
    | error r' => rw [e, e'] at this; exact this.elim
    | ok x' => rw [e, e'] at this; exact this
/-- a source printed from tokens parses as the tokens are read -/
theorem text_parse {l : List Tok} (hv : ∀ t ∈ l, validB t = true) (hs : (textL l).length ≤ 65536) :
    parE (textL l) = readE l ∧ parL (textL l) = readL l := by
  obtain ⟨h1, h2, _⟩ := text_lex hv hs
  unfold parE parL
  rw [if_pos h1, if_pos h1]
  exact ⟨readE_eras h2, readL_eras h2⟩
theorem parP_ok {s : List UInt8} (h : parE s = 0) : parP s = 0 := by
  unfold parE at h
  unfold parP
  by_cases h0 : lexE s = 0
  · rw [if_pos h0] at h ⊢
    unfold readE at h
    unfold readP
    cases e : pRead (lexT s) with
    | ok xs => rfl
    | error r => rw [e] at h; cases h
  · rw [if_neg h0] at h
    exact absurd h h0
theorem par_read {s : List UInt8} (hl : lexE s = 0) (h : parE s = 0) : ∃ xs, pRead (lexT s) = .ok xs := by
  unfold parE at h
  rw [if_pos hl] at h
  unfold readE at h
  cases e : pRead (lexT s) with
  | ok xs => exact ⟨xs, rfl⟩
  | error r => rw [e] at h; cases h
/-- what the parser says of printed tokens: nothing, or the place of the first wrong one -/
theorem text_wrong {l : List Tok} (hv : ∀ t ∈ l, validB t = true) (hs : (textL l).length ≤ 65536) :
    (parE (textL l) = 0 ∧ parP (textL l) = 0 ∧ ∃ xs, pRead l = .ok xs) ∨
    ∃ r, pRead l = .error r ∧ parE (textL l) = 170 ∧ parP (textL l) = placeOf (textL l).length ((lexT (textL l)).drop (l.length - r.length)) := by
  obtain ⟨h1, h2, _⟩ := text_lex hv hs
  have h := eras_read h2
  have hll : (lexT (textL l)).length = l.length := by have := congrArg List.length h2; simpa using this
  cases e : pRead l with
  | ok xs =>
    refine .inl ?_
    have hp : parE (textL l) = 0 := by rw [(text_parse hv hs).1]; unfold readE; rw [e]
    exact ⟨hp, parP_ok hp, xs, rfl⟩
  | error r =>
    refine .inr ⟨r, rfl, by rw [(text_parse hv hs).1]; unfold readE; rw [e], ?_⟩
    unfold parP readP
    rw [if_pos h1]
    cases e2 : pRead (lexT (textL l)) with
    | ok xs => rw [e, e2] at h; exact h.elim
    | error r2 =>
      rw [e, e2] at h
      have hl : r2.length = r.length := by have := congrArg List.length (show r2.map erase = r.map erase from h); simpa using this
      have s2 := suffix_drop (read_end _ _ (Nat.le_refl _) _ e2)
      simp only
      rw [s2, hl, hll]
theorem cut_law {L : List Tok} {xs : List WishD} (hv : ∀ t ∈ L, validB t = true) (h : pRead L = .ok xs) (k : Nat) (hs : (textL (L.take k)).length ≤ 65536) :
    (parE (textL (L.take k)) = 0 ∧ parP (textL (L.take k)) = 0) ∨ (parE (textL (L.take k)) = 170 ∧ parP (textL (L.take k)) = (textL (L.take k)).length) := by
  have hv' : ∀ t ∈ L.take k, validB t = true := fun t ht => hv t (List.mem_of_mem_take ht)
  rcases text_wrong hv' hs with ⟨h1, h2, _⟩ | ⟨r, h1, h2, h3⟩
  · exact .inl ⟨h1, h2⟩
  · refine .inr ⟨h2, ?_⟩
    rcases read_cut (a := L.take k) (b := L.drop k) (xs := xs) (by rw [List.take_append_drop]; exact h) with ⟨ys, e⟩ | e
    · rw [e] at h1; cases h1
    · rw [e] at h1
      cases h1
      have hll : (lexT (textL (L.take k))).length = (L.take k).length := by have := congrArg List.length (text_lex hv' hs).2.1; simpa using this
      rw [h3, List.drop_eq_nil_of_le (by rw [hll]; simp)]
      rfl
/-- the tokens behind the first i of them lie behind the text of these -/
theorem join_pos : ∀ (l : List Tok) (i at_ : Nat), (∀ t ∈ l, validB t = true) → ∀ t ∈ (lexA (joinW (l.map txt)) at_).1.drop i, (at_ : Int) + (joinW ((l.take i).map txt)).length ≤ t.pos
  | l, 0, at_, h, t, ht => by
    have := lexA_posY _ _ t (by simpa using ht)
    simp [joinW]
    omega
  | [], i + 1, at_, h, t, ht => by simp [joinW, lexA_nil] at ht
  | [u], i + 1, at_, h, t, ht => by
    have := lexA_tok (t := u) (r := []) (h u (by simp)) rfl at_
    simp only [List.append_nil] at this
    simp only [List.map_cons, List.map_nil, joinW, this, lexA_nil, List.drop_succ_cons, List.drop_nil] at ht
    cases ht
  | u :: v :: r, i + 1, at_, h, t, ht => by
    have hu := lexA_tok (t := u) (r := 32 :: joinW ((v :: r).map txt)) (h u (by simp)) rfl at_
    have hs := lexA_spc (c := 32) (r := joinW ((v :: r).map txt)) (at_ := at_ + (txt u).length) rfl
    have ih := join_pos (v :: r) i (at_ + (txt u).length + 1) (fun x hx => h x (by simp at hx ⊢; right; exact hx)) t
    simp only [List.map_cons, joinW] at hu hs ih ht ⊢
    rw [hu, hs] at ht
    have := ih (by simpa using ht)
    cases i with
    | zero => simp [joinW] at this ⊢; omega
    | succ i => simp [joinW] at this ⊢; omega
theorem join_pre : ∀ (l : List (List UInt8)) (i : Nat), joinW (l.take i) <+: joinW l
  | l, 0 => by simp [joinW]
  | [], i + 1 => by simp [joinW]
  | [x], i + 1 => by simp [joinW]
  | x :: y :: r, 1 => by simp [joinW]
  | x :: y :: r, i + 2 => by
    have := join_pre (y :: r) (i + 1)
    simp only [List.take_succ_cons, joinW] at this ⊢
    obtain ⟨z, hz⟩ := this
    exact ⟨z, by rw [← hz]; simp⟩
theorem change_law {L : List Tok} {xs : List WishD} (hv : ∀ t ∈ L, validB t = true) (h : pRead L = .ok xs) {i : Nat} (hi : i < L.length) {o : Tok} (ho : validB o = true)
    (hs : (textL (L.set i o)).length ≤ 65536) :
    (parE (textL (L.set i o)) = 0 ∧ parP (textL (L.set i o)) = 0) ∨
    (parE (textL (L.set i o)) = 170 ∧ ((textL (L.take i)).length : Int) ≤ parP (textL (L.set i o)) ∧ parP (textL (L.set i o)) ≤ (textL (L.set i o)).length) := by
  have hv' : ∀ t ∈ L.set i o, validB t = true := fun t ht => by
    rcases List.mem_or_eq_of_mem_set ht with h | rfl
    · exact hv t h
    · exact ho
  have hvt : ∀ t ∈ L.take i, validB t = true := fun t ht => hv t (List.mem_of_mem_take ht)
  rcases text_wrong hv' hs with ⟨h1, h2, _⟩ | ⟨r, h1, h2, h3⟩
  · exact .inl ⟨h1, h2⟩
  · refine .inr ⟨h2, ?_, (parP_bd hs).2⟩
    have hsp : L.set i o = L.take i ++ o :: L.drop (i + 1) := by rw [List.set_eq_take_append_cons_drop, if_pos hi]
    have hsuf : r <:+ o :: L.drop (i + 1) := read_change (a := L.take i) (b := L.drop i) (xs := xs) (by rw [List.take_append_drop]; exact h) (by rw [← hsp]; exact h1)
    have hlen := hsuf.length_le
    simp only [List.length_cons, List.length_drop] at hlen
    have hli : i ≤ (L.set i o).length - r.length := by rw [List.length_set]; omega
    obtain ⟨d, hd⟩ : ∃ d, (L.set i o).length - r.length = i + d := ⟨_, (Nat.add_sub_cancel' hli).symm⟩
    rw [h3, hd, (text_lex hv' hs).2.2, ← List.drop_drop]
    have htk : (L.set i o).take i = L.take i := by rw [List.take_set]; exact List.set_eq_of_length_le (by simp; omega)
    rw [textL_ofY hvt, textL_ofY hv']
    have hpre := (join_pre ((L.set i o).map txt) i).length_le
    rw [← List.map_take, htk] at hpre
    cases e : List.drop d (List.drop i (lexA (joinW ((L.set i o).map txt)) 0).1) with
    | nil => simp only [placeOf]; omega
    | cons t u =>
      have hm : t ∈ (lexA (joinW ((L.set i o).map txt)) 0).1.drop i := List.mem_of_mem_drop (by rw [e]; exact List.mem_cons_self ..)
      have := join_pos _ i 0 hv' t hm
      rw [htk] at this
      simp only [placeOf]
      omega
theorem change_pre {L : List Tok} (hv : ∀ t ∈ L, validB t = true) {i : Nat} {o : Tok} (ho : validB o = true) : textL (L.take i) <+: textL (L.set i o) := by
  have hv' : ∀ t ∈ L.set i o, validB t = true := fun t ht => by
    rcases List.mem_or_eq_of_mem_set ht with h | rfl
    · exact hv t h
    · exact ho
  have hvt : ∀ t ∈ L.take i, validB t = true := fun t ht => hv t (List.mem_of_mem_take ht)
  rw [textL_ofY hvt, textL_ofY hv']
  have hpre := join_pre ((L.set i o).map txt) i
  rw [← List.map_take] at hpre
  have htk : (L.set i o).take i = L.take i := by rw [List.take_set]; exact List.set_eq_of_length_le (by simp; omega)
  rw [htk] at hpre
  exact hpre
end Go.Proofs.YtfnmidddgjlipaaDoor

/-
  Layer 17, plain: what was read from valid tokens is printed as these tokens; what was printed is read again.
-/
set_option linter.unusedVariables false
set_option linter.unusedSimpArgs false
namespace Go.Proofs.YtfnmidddgjlipaaDoor

/-- what a part of the parser takes, as tokens without places -/
def Prt {α : Type} (p : List Tok → PR α) (R : α → List Tok → Prop) : Prop := ∀ l x r, (∀ t ∈ l, validB t = true) → p l = .ok (x, r) → ∃ u, l.map erase = u ++ r.map erase ∧ R x u
theorem prt_mono {α : Type} {p : List Tok → PR α} {R S : α → List Tok → Prop} (h : Prt p R) (hs : ∀ x u, R x u → S x u) : Prt p S := fun l x r hl e => by
  obtain ⟨u, h1, h2⟩ := h l x r hl e
  exact ⟨u, h1, hs _ _ h2⟩
theorem prt_bind {α β : Type} {p : List Tok → PR α} {q : α → List Tok → PR β} {R : α → List Tok → Prop} {S : α → β → List Tok → Prop} (hp : Prt p R) (he : Ends p) (hq : ∀ x, Prt (q x) (S x)) :
    Prt (pBind p q) (fun y u => ∃ x u1 u2, u = u1 ++ u2 ∧ R x u1 ∧ S x y u2) := fun l y r hl h => by
  unfold pBind at h
  cases e : p l with
  | error s => rw [e] at h; cases h
  | ok v =>
    obtain ⟨x, r1⟩ := v
    rw [e] at h
    have h1 := he l
    rw [e] at h1
    obtain ⟨u1, k1, k2⟩ := hp l x r1 hl e
    obtain ⟨u2, k3, k4⟩ := hq x r1 y r (fun t ht => hl t (h1.subset ht)) h
    exact ⟨u1 ++ u2, by rw [k1, k3, List.append_assoc], x, u1, u2, rfl, k2, k4⟩
theorem prt_pure {α : Type} (x : α) : Prt (pPure x) (fun y u => y = x ∧ u = []) := fun l y r hl e => by
  cases e
  exact ⟨[], rfl, rfl, rfl⟩
theorem erase_word {t : Tok} {s : Str} (hv : validB t = true) (h : isT t s = true) (hs : s.length ≠ 1) : erase t = nmT s := by
  unfold isT at h
  simp only [Bool.and_eq_true, bne_iff_ne, ne_eq, beq_iff_eq] at h
  obtain ⟨h1, rfl⟩ := h
  rcases valid_kind hv with hk | hk | hk
  · have := (valid_name hv hk).2
    obtain ⟨k, x, n, p⟩ := t
    simp only at hk this
    subst hk; subst this
    rfl
  · exact absurd hk h1
  · obtain ⟨c, hc, _⟩ := valid_sgn hv hk
    rw [hc] at hs
    exact absurd rfl hs
theorem erase_sign {t : Tok} {s : Str} (hv : validB t = true) (h : isT t s = true) (hs : nameB s = false) : erase t = sgT s := by
  unfold isT at h
  simp only [Bool.and_eq_true, bne_iff_ne, ne_eq, beq_iff_eq] at h
  obtain ⟨h1, rfl⟩ := h
  rcases valid_kind hv with hk | hk | hk
  · have := (valid_name hv hk).1
    rw [hs] at this
    cases this
  · exact absurd hk h1
  · obtain ⟨c, hc, _, hn⟩ := valid_sgn hv hk
    obtain ⟨k, x, n, p⟩ := t
    simp only at hk hn
    subst hk; subst hn
    rfl
theorem prt_take {s : Str} {u : Tok} (hw : ∀ t, validB t = true → isT t s = true → erase t = u) {l r : List Tok} (hl : ∀ t ∈ l, validB t = true) (h : pTake s l = some r) : l.map erase = u :: r.map erase := by
  obtain ⟨t, rfl, ht⟩ := take_end h
  rw [List.map_cons, hw t (hl t (List.mem_cons_self ..)) ht]
theorem prt_want {s : Str} {u : Tok} (hw : ∀ t, validB t = true → isT t s = true → erase t = u) : Prt (pWant s) (fun _ x => x = [u]) := fun l x r hl h => by
  unfold pWant at h
  cases e : pTake s l with
  | none => rw [e] at h; cases h
  | some r' =>
    rw [e] at h
    cases h
    exact ⟨[u], by rw [prt_take hw hl e]; rfl, rfl⟩
theorem prt_word {s : Str} (hs : s.length ≠ 1) : Prt (pWant s) (fun _ x => x = [nmT s]) := prt_want fun t hv h => erase_word hv h hs
theorem prt_sign {s : Str} (hs : nameB s = false) : Prt (pWant s) (fun _ x => x = [sgT s]) := prt_want fun t hv h => erase_sign hv h hs
theorem prt_name : Prt pName (fun s u => u = [nmT s]) := fun l x r hl h => by
  cases l with
  | nil => cases h
  | cons t u =>
    rw [name_cons] at h
    split at h
    · rename_i hc
      cases h
      have hv := hl t (List.mem_cons_self ..)
      unfold okName at hc
      simp only [Bool.and_eq_true, beq_iff_eq] at hc
      have := (valid_name hv hc.1).2
      refine ⟨[nmT t.text], ?_, rfl⟩
      obtain ⟨k, x, n, p⟩ := t
      simp only at hc this
      obtain ⟨hk, _⟩ := hc
      subst hk; subst this
      rfl
    · cases h
theorem prt_num (m : Int) : Prt (pNum m) (fun n u => u = [nuT n]) := fun l x r hl h => by
  cases l with
  | nil => cases h
  | cons t u =>
    rw [num_cons] at h
    split at h
    · rename_i hc
      cases h
      have hv := hl t (List.mem_cons_self ..)
      unfold okNum at hc
      simp only [Bool.and_eq_true, beq_iff_eq] at hc
      have := (valid_num hv hc.1).1
      refine ⟨[nuT t.n], ?_, rfl⟩
      obtain ⟨k, x, n, p⟩ := t
      simp only at hc this
      obtain ⟨hk, _⟩ := hc
      subst hk; subst this
      rfl
    · cases h
theorem prt_wn {s : Str} (hs : s.length ≠ 1) : Prt (pWN s) (fun n u => u = [nmT s, nmT n]) :=
  prt_mono (prt_bind (prt_word hs) (ends_want s) fun _ => prt_name) fun x u ⟨_, u1, u2, h1, h2, h3⟩ => by rw [h1, h2, h3]; rfl
theorem prt_wm {s : Str} {m : Int} (hs : s.length ≠ 1) : Prt (pWM s m) (fun n u => u = [nmT s, nuT n]) :=
  prt_mono (prt_bind (prt_word hs) (ends_want s) fun _ => prt_num m) fun x u ⟨_, u1, u2, h1, h2, h3⟩ => by rw [h1, h2, h3]; rfl
theorem prt_if {α : Type} {s : Str} {v : Tok} {p q : List Tok → PR α} {R S : α → List Tok → Prop} (hw : ∀ t, validB t = true → isT t s = true → erase t = v) (hp : Prt p R) (hq : Prt q S) :
    Prt (pIf s p q) (fun x u => (∃ u', u = v :: u' ∧ R x u') ∨ S x u) := fun l x r hl h => by
  unfold pIf at h
  cases e : pTake s l with
  | none =>
    rw [e] at h
    obtain ⟨u, h1, h2⟩ := hq l x r hl h
    exact ⟨u, h1, .inr h2⟩
  | some r' =>
    rw [e] at h
    have h0 := prt_take hw hl e
    obtain ⟨t, rfl, _⟩ := take_end e
    obtain ⟨u, h1, h2⟩ := hp r' x r (fun t ht => hl t (List.mem_cons_of_mem _ ht)) h
    exact ⟨v :: u, by rw [h0, h1]; rfl, .inl ⟨u, rfl, h2⟩⟩
theorem prt_more : ∀ (f : Nat) (acc : List Str), Prt (pMore f acc) (fun ag u => ∃ xs, ag = acc ++ xs ∧ u = xs.flatMap (fun x => [sgT sComma, nmT x]))
  | 0, acc => prt_mono (prt_pure acc) fun x u ⟨h1, h2⟩ => ⟨[], by rw [h1, List.append_nil], by rw [h2]; rfl⟩
  | f + 1, acc => by
    rw [more_eq]
    refine prt_mono (prt_if (v := sgT sComma) (fun t hv h => erase_sign hv h rfl) (prt_bind prt_name ends_name fun s => prt_more f (acc ++ [s])) (prt_pure acc)) ?_
    rintro x u (⟨u', h1, s, u1, u2, h2, h3, xs, h4, h5⟩ | ⟨h1, h2⟩)
    · exact ⟨s :: xs, by rw [h4]; simp, by rw [h1, h2, h3, h5]; simp⟩
    · exact ⟨[], by rw [h1, List.append_nil], by rw [h2]; rfl⟩
theorem prt_against : Prt pAgainst (fun ag u => u = agT ag) := by
  rw [against_eq]
  refine prt_mono (prt_if (v := nmT wAgainst) (fun t hv h => erase_word hv h (by decide)) (prt_bind prt_name ends_name fun s l x r hl h => prt_more l.length [s] l x r hl h) (prt_pure [])) ?_
  rintro x u (⟨u', h1, s, u1, u2, h2, h3, xs, h4, h5⟩ | ⟨h1, h2⟩)
  · rw [h4, h1, h2, h3, h5]; rfl
  · rw [h1, h2]; rfl
theorem prt_back : Prt pBack (fun b u => u = if b then [nmT wBack] else []) := by
  refine prt_mono (prt_if (v := nmT wBack) (fun t hv h => erase_word hv h (by decide)) (prt_pure true) (prt_pure false)) ?_
  rintro x u (⟨u', h1, h2, h3⟩ | ⟨h1, h2⟩)
  · rw [h2, h1, h3]; rfl
  · rw [h1, h2]; rfl
theorem prt_else : Prt pElse (fun e u => u = elT e) := by
  refine prt_mono (prt_if (v := nmT wElse) (fun t hv h => erase_word hv h (by decide)) (prt_if (v := nmT wHold) (fun t hv h => erase_word hv h (by decide)) (prt_pure (1 : Int)) (prt_bind (prt_word (s := wForward) (by decide)) (ends_want _) fun _ => prt_pure (2 : Int))) (prt_pure (0 : Int))) ?_
  rintro x u (⟨u', h1, (⟨u'', h2, h3, h4⟩ | ⟨_, u1, u2, h2, h3, h4, h5⟩)⟩ | ⟨h1, h2⟩)
  · rw [h1, h2, h3, h4]; rfl
  · rw [h1, h2, h3, h4, h5]; rfl
  · rw [h1, h2]; rfl
theorem prt_body : Prt pBody (fun x u => u ++ [sgT sSemi] = ordT x) := by
  refine prt_mono (prt_bind (prt_wn (s := wLetter) (by decide)) (ends_wn _) fun a => prt_bind (prt_wn (s := wFrom) (by decide)) (ends_wn _) fun b => prt_bind (prt_wn (s := wTo) (by decide)) (ends_wn _) fun c => prt_bind (prt_wn (s := wClass) (by decide)) (ends_wn _) fun d =>
    prt_bind (prt_wm (s := wAfter) (by decide)) (ends_wm _ _) fun i => prt_bind (prt_wm (s := wBy) (by decide)) (ends_wm _ _) fun j => prt_bind (prt_wm (s := wCrowd) (by decide)) (ends_wm _ _) fun k =>
    prt_bind prt_against ends_against fun ag => prt_bind (prt_wm (s := wPay) (by decide)) (ends_wm _ _) fun p => prt_bind prt_back ends_back fun bk => prt_bind prt_else ends_else fun el => prt_pure (⟨a, b, c, d, i, j, k, p, ag, bk, el⟩ : WishD)) ?_
  rintro x u ⟨a, ua, u1, e1, ha, b, ub, u2, e2, hb, c, uc, u3, e3, hc, d, ud, u4, e4, hd, i, ui, u5, e5, hi, j, uj, u6, e6, hj, k, uk, u7, e7, hk, ag, uag, u8, e8, hag, p, up, u9, e9, hp, bk, ubk, u10, e10, hbk, el, uel, u11, e11, hel, hx, e12⟩
  subst hx
  rw [e1, e2, e3, e4, e5, e6, e7, e8, e9, e10, e11, e12, ha, hb, hc, hd, hi, hj, hk, hag, hp, hbk, hel]
  unfold ordT
  simp
theorem prt_order : Prt pOrder (fun x u => u = ordT x) := by
  refine prt_mono (prt_bind prt_body ends_body fun x => prt_bind (prt_sign (s := sSemi) rfl) (ends_want _) fun _ => prt_pure x) ?_
  rintro x u ⟨y, u1, u2, e1, h1, _, u3, u4, e2, h2, rfl, e3⟩
  rw [e1, e2, h2, e3, ← h1]
  simp
/-- the tokens of orders that were read -/
theorem read_print : ∀ (n : Nat) (l : List Tok) (xs : List WishD), l.length ≤ n → (∀ t ∈ l, validB t = true) → pRead l = .ok xs → l.map erase = ordsT xs
  | _, [], xs, _, _, h => by cases h; rfl
  | 0, t :: u, xs, hn, _, h => by simp at hn
  | n + 1, t :: u, xs, hn, hl, h => by
    rw [read_cons (by simp)] at h
    cases e : pOrder (t :: u) with
    | error s => rw [e] at h; cases h
    | ok v =>
      obtain ⟨x, r⟩ := v
      rw [e] at h
      simp only at h
      obtain ⟨t', u', he, hsf⟩ := order_some e
      injection he with _ he
      subst he
      have hlen := hsf.length_le
      simp only [List.length_cons] at hn
      cases e2 : pRead r with
      | error s => rw [e2] at h; cases h
      | ok ys =>
        rw [e2] at h
        cases h
        obtain ⟨w, h1, rfl⟩ := prt_order _ _ _ hl e
        have ih := read_print n r ys (by omega) (fun t ht => hl t (List.mem_cons_of_mem _ (hsf.subset ht))) e2
        rw [h1, ih]
        unfold ordsT
        rw [List.flatMap_cons]
theorem erase_validY {t : Tok} (h : validB t = true) : validB (erase t) = true := h
theorem ordsT_mem {l : List WishD} {x : WishD} (h : x ∈ l) : ∀ t ∈ ordT x, t ∈ ordsT l := fun t ht => List.mem_flatMap.2 ⟨x, h, ht⟩
theorem agT_lenY (ag : List Str) : (agT ag).length = 2 * ag.length := by
  cases ag with
  | nil => rfl
  | cons s r =>
    simp only [agT, List.length_cons]
    have : (r.flatMap (fun x => [sgT sComma, nmT x])).length = 2 * r.length := by
      induction r with
      | nil => rfl
      | cons a b ih => simp only [List.flatMap_cons, List.length_append, List.length_cons, List.length_nil, ih]; omega
    omega
theorem elT_len (e : Int) : (elT e).length ≤ 2 := by
  unfold elT
  split
  · simp
  · split <;> simp
theorem ordT_len (x : WishD) : 2 * x.against.length ≤ (ordT x).length ∧ (ordT x).length ≤ 20 + 2 * x.against.length := by
  unfold ordT
  have h1 := agT_lenY x.against
  have h2 := elT_len x.els
  simp only [List.length_append, List.length_cons, List.length_nil, h1]
  by_cases hb : x.back = true
  · rw [if_pos hb]; simp; omega
  · rw [if_neg hb]; simp; omega
theorem ordsT_len_mem : ∀ (l : List WishD) (x : WishD), x ∈ l → (ordT x).length ≤ (ordsT l).length
  | [], x, h => by cases h
  | y :: l, x, h => by
    unfold ordsT
    rw [List.flatMap_cons, List.length_append]
    rcases List.mem_cons.1 h with rfl | h
    · omega
    · have := ordsT_len_mem l x h
      unfold ordsT at this
      omega
theorem prS_ok {l : List WishD} (h : prOk l = true) : prS l = textL (ordsT l) := by unfold prS; rw [h]; rfl
theorem prE_ok {l : List WishD} (h : prOk l = true) : prE l = 0 := by unfold prE; rw [h]; rfl
theorem prS_bad {l : List WishD} (h : prE l ≠ 0) : prS l = [] ∧ prE l = 170 := by
  unfold prE at h ⊢
  unfold prS
  cases e : prOk l with
  | true => rw [e] at h; exact absurd rfl h
  | false => exact ⟨rfl, rfl⟩
theorem pr_ok {l : List WishD} (h : prE l = 0) : prOk l = true := by
  cases e : prOk l with
  | true => rfl
  | false => unfold prE at h; rw [e] at h; cases h
/-- what was read can be printed -/
theorem parsed_prints {s : List UInt8} (hs : s.length ≤ 2000) (h : parE s = 0) : PrFew (parL s) ∧ prE (parL s) = 0 := by
  have hl : lexE s = 0 := by
    unfold parE at h
    by_cases h0 : lexE s = 0
    · exact h0
    · rw [if_neg h0] at h; exact absurd h h0
  obtain ⟨xs, hx⟩ := par_read hl h
  have hL : parL s = xs := by unfold parL readL; rw [if_pos hl, hx]
  have hv := lexT_valid s
  have hp := read_print _ _ _ (Nat.le_refl _) hv hx
  have hsh := lexT_short s
  have hlen : (ordsT xs).length ≤ 2000 := by rw [← hp, List.length_map]; omega
  have hvo : ∀ t ∈ ordsT xs, validB t = true := by
    rw [← hp]
    intro t ht
    obtain ⟨u, hu, rfl⟩ := List.mem_map.1 ht
    exact erase_validY (hv u hu)
  have hfine : ∀ x ∈ xs, Fine x := fun x hx' => fine_from (read_from _ _ _ (Nat.le_refl _) hv hx x hx')
  have hr := orders_read xs hfine
  rw [hL]
  refine ⟨⟨by omega, fun t ht => ?_, fun x hx' => ?_⟩, prE_ok ?_⟩
  · have := valid_short (hvo t ht); omega
  · have h1 := ordsT_len_mem xs x hx'
    have h2 := (ordT_len x).1
    omega
  · unfold prOk
    rw [textE_ofY hvo]
    unfold readE readL sameWs
    rw [hr]
    simp
theorem few_prFew {l : List WishD} (h : few17 l = true) : PrFew l := by
  unfold few17 at h
  simp only [Bool.and_eq_true, decide_eq_true_eq, List.all_eq_true] at h
  obtain ⟨h1, h2⟩ := h
  rw [List.take_of_length_le h2] at h1
  have hx : ∀ x ∈ l, x.name.length ≤ 40 ∧ x.frm.length ≤ 40 ∧ x.to.length ≤ 40 ∧ x.cls.length ≤ 40 ∧ x.against.length ≤ 30 ∧ ∀ s ∈ x.against, s.length ≤ 40 := by
    intro x hx
    have := h1 x hx
    unfold fewX at this
    simp only [Bool.and_eq_true, decide_eq_true_eq, List.all_eq_true] at this
    obtain ⟨⟨⟨⟨⟨a, b⟩, c⟩, d⟩, e⟩, f⟩ := this
    exact ⟨a, b, c, d, e, f⟩
  have hlen : ∀ (l : List WishD), (∀ x ∈ l, x.against.length ≤ 30) → (ordsT l).length ≤ 80 * l.length := by
    intro l
    induction l with
    | nil => intro _; simp [ordsT]
    | cons y l ih =>
      intro h
      have i1 := ih (fun x hx => h x (List.mem_cons_of_mem _ hx))
      have i2 := (ordT_len y).2
      have i3 := h y (List.mem_cons_self ..)
      unfold ordsT at i1 ⊢
      rw [List.flatMap_cons, List.length_append, List.length_cons]
      omega
  refine ⟨?_, fun t ht => ?_, fun x hx' => ?_⟩
  · have := hlen l (fun x hx' => (hx x hx').2.2.2.2.1)
    have : 80 * l.length ≤ 80 * 30 := Nat.mul_le_mul_left _ h2
    omega
  · obtain ⟨x, hm, ht⟩ := List.mem_flatMap.1 ht
    obtain ⟨a, b, c, d, _, f⟩ := hx x hm
    unfold ordT at ht
    simp only [List.mem_append, List.mem_cons, List.not_mem_nil, or_false] at ht
    have hw : ∀ s ∈ [wLetter, wFrom, wTo, wClass, wAfter, wBy, wCrowd, wPay, wAgainst, wBack, wElse, wHold, wForward, sSemi, sComma], s.length ≤ 40 := by decide
    have hag : ∀ t ∈ agT x.against, t.text.length ≤ 40 := by
      intro t ht
      cases hx : x.against with
      | nil => rw [hx] at ht; cases ht
      | cons s r =>
        rw [hx] at ht f
        simp only [agT, List.mem_cons, List.mem_flatMap, List.not_mem_nil, or_false] at ht
        rcases ht with rfl | rfl | ⟨y, hy, rfl | rfl⟩
        · decide
        · exact f s (List.mem_cons_self ..)
        · decide
        · exact f y (List.mem_cons_of_mem _ hy)
    have hel : ∀ t ∈ elT x.els, t.text.length ≤ 40 := by
      intro t ht
      unfold elT at ht
      split at ht
      · simp only [List.mem_cons, List.not_mem_nil, or_false] at ht
        rcases ht with rfl | rfl <;> decide
      · split at ht
        · simp only [List.mem_cons, List.not_mem_nil, or_false] at ht
          rcases ht with rfl | rfl <;> decide
        · cases ht
    have key : t.text.length ≤ 40 := by
      rcases ht with ((((ht | ht) | ht) | ht) | ht) | ht
      · rcases ht with rfl | rfl | rfl | rfl | rfl | rfl | rfl | rfl | rfl | rfl | rfl | rfl | rfl | rfl
        all_goals first | decide | assumption | (simp [nuT])
      · exact hag t ht
      · rcases ht with rfl | rfl
        · decide
        · simp [nuT]
      · by_cases hb : x.back = true
        · rw [if_pos hb] at ht
          obtain rfl := List.mem_singleton.1 ht
          decide
        · rw [if_neg hb] at ht
          cases ht
      · exact hel t ht
      · rw [ht]; decide
    omega
  · have := (hx x hx').2.2.2.2.1; omega
/-- what was printed is read again -/
theorem printed_parses {l : List WishD} (h : prE l = 0) (hs : (prS l).length ≤ 65536) : parE (prS l) = 0 ∧ parP (prS l) = 0 ∧ parL (prS l) = l := by
  have ho := pr_ok h
  rw [prS_ok ho] at hs ⊢
  unfold prOk at ho
  simp only [Bool.and_eq_true, decide_eq_true_eq] at ho
  obtain ⟨⟨h1, h2⟩, h3⟩ := ho
  have hv : ∀ t ∈ ordsT l, validB t = true := by
    unfold textE at h1
    split at h1
    · rename_i hc; simpa using hc
    · cases h1
  obtain ⟨k1, k2⟩ := text_parse hv hs
  have k3 : parE (textL (ordsT l)) = 0 := by rw [k1]; exact h2
  refine ⟨k3, parP_ok k3, ?_⟩
  rw [k2]
  unfold sameWs at h3
  exact (of_decide_eq_true h3).symm
end Go.Proofs.YtfnmidddgjlipaaDoor

/-
  Layer 17: the walk of SyntaxBack (printed by tools/genyl3.py).
-/
set_option linter.unusedVariables false
set_option linter.unusedSimpArgs false
namespace Go.Proofs.YtfnmidddgjlipaaDoor
open Go.RowKit

theorem str_of_data {s : ByteArray} {L : List UInt8} (h : s.data.toList = L) : strV L = .string s := by
  subst h
  rfl
theorem sameWs_refl (l : List WishD) : sameWs l l = true := by unfold sameWs; simp
set_option maxHeartbeats 8000000 in
set_option maxRecDepth 100000 in
theorem syntaxBack_any (B : Nat) (s : ByteArray) (vl : Value) (l : List WishD) (w : World) (hL : LaidW w) (hs : s.size ≤ 140737488351232) (hB : B ≤ w.heap.size) (hv : IsWishes B w vl l) :
    Calls Tryd.prog 3 #[.string s, vl] w fun e w' => e = .returned (.bool true) ∧ Below w.heap.size w w' := by
  have HL0 := Lib.hid hL
  have h4 := hL.size
  have hlen := size_data s
  have HV := Lib.hid hv
  obtain ⟨av, cv, rfl, hcv1, hcv2, hcv3⟩ := hv.form
  obtain ⟨A, hA⟩ : ∃ A, s.data.toList = A := ⟨_, rfl⟩
  have HA : Hid (A.length = s.size) := Lib.hid (by rw [← hA]; exact hlen)
  clear hL hv hlen
  go_enter Tryd.func3, Tryd.ntmps3
  go_wp2_with fail
  refine (sane17_any w HL0.out).mono ?_
  rintro e w1 ⟨rfl, hb⟩
  have HB1 := Lib.hid hb
  have HL1 := Lib.hid (HL0.out.below hb h4)
  have HV1 := Lib.hid (IsRecs.below wishK HV.out hb hB)
  clear hb
  have hz1 : B ≤ w1.heap.size := Nat.le_trans hB HB1.out.size
  by_cases hsz : 2000 < s.size
  · have hsz2 : ¬ ((s.size : Int) ≤ 2000) := by omega
    clear hsz
    go_upto_region 11 with fail
    go_wp2_with fail
    refine (few17_any B w1 _ l hz1 HV1.out).mono ?_
    rintro e w5 ⟨rfl, hb⟩
    have HB5 : Hid (Below w.heap.size w w5) := Lib.hid (HB1.out.trans (hb.mono HB1.out.size))
    have hz5 : B ≤ w5.heap.size := Nat.le_trans hz1 hb.size
    have HV5 : Hid (IsWishes B w5 _ l) := Lib.hid (IsRecs.below wishK HV1.out hb hz1)
    clear hb
    cases hf : few17 l with
    | false =>
      clear hf
      go_wp2
      go_ret
      exact ⟨rfl, HB5.out⟩
    | true =>
      have HPF := Lib.hid (few_prFew hf)
      clear hf
      go_wp2_with fail
      refine (print_any B w5 _ l (HL0.out.below HB5.out h4) hz5 HV5.out HPF.out).mono ?_
      rintro e w6 ⟨rfl, hb⟩
      have HB6 : Hid (Below w.heap.size w w6) := Lib.hid (HB5.out.trans (hb.mono HB5.out.size))
      have hz6 : B ≤ w6.heap.size := Nat.le_trans hz5 hb.size
      have HV6 : Hid (IsWishes B w6 _ l) := Lib.hid (IsRecs.below wishK HV5.out hb hz5)
      clear hb
      obtain ⟨S, hS⟩ : ∃ S : ByteArray, S.data.toList = prS l := ⟨⟨(prS l).toArray⟩, rfl⟩
      have hSV := str_of_data hS
      have HSB := Lib.hid (prS_bad (l := l))
      have HPP := Lib.hid (printed_parses (l := l))
      have hSl := size_data S
      rw [← hS] at HSB HPP
      rw [hSl] at HPP
      rw [hSV]
      have HSV := Lib.hid hSV
      have HSD := Lib.hid hS
      clear hSV hS hSl
      obtain ⟨E, hE⟩ : ∃ E, prE l = E := ⟨_, rfl⟩
      rw [hE] at HSB HPP ⊢
      have HE := Lib.hid hE
      clear hE
      by_cases hE0 : E = 0
      rotate_left
      · obtain ⟨hs1, rfl⟩ := HSB.out hE0
        have hS0 : S = ⟨#[]⟩ := by
          obtain ⟨⟨d⟩⟩ := S
          have : d = [] := hs1
          subst this
          rfl
        subst hS0
        clear hE0 hs1
        go_wp2
        go_ret
        exact ⟨rfl, HB6.out⟩
      subst hE0
      by_cases hbig : 65536 < S.size
      · have hbig2 : (65536 : Int) < (S.size : Int) := by omega
        go_wp2
        go_ret
        exact ⟨rfl, HB6.out⟩
      have hbig2 : ¬ (65536 : Int) < (S.size : Int) := by omega
      obtain ⟨p1, p2, p3⟩ := HPP.out rfl (by omega)
      have HP := Lib.hid (And.intro p1 (And.intro p2 p3))
      clear p1 p2 p3
      go_wp2_with fail
      refine (parse_any S w6 (HL0.out.below HB6.out h4) (by omega)).mono ?_
      rintro e w7 ⟨v7, he, ho, hb⟩
      have HB7 : Hid (Below w.heap.size w w7) := Lib.hid (HB6.out.trans (hb.mono HB6.out.size))
      have HV7 : Hid (IsWishes B w7 _ l) := Lib.hid (IsRecs.below wishK HV6.out hb hz6)
      have hz7 : B ≤ w7.heap.size := Nat.le_trans hz6 hb.size
      rw [HP.out.1, HP.out.2.1] at he
      have HX := Lib.hid (ownWs_is ho)
      rw [HP.out.2.2] at HX
      obtain ⟨ax, cx, rfl, hcx1, hcx2, hcx3⟩ := HX.out.form
      subst he
      clear hb ho hbig hbig2
      go_wp2_with fail
      refine (print_any w7.heap.size w7 _ l (HL0.out.below HB7.out h4) (Nat.le_refl _) HX.out HPF.out).mono ?_
      rintro e w8 ⟨rfl, hb⟩
      have HB8 : Hid (Below w.heap.size w w8) := Lib.hid (HB7.out.trans (hb.mono HB7.out.size))
      have HV8 : Hid (IsWishes w8.heap.size w8 _ l) := Lib.hid ((IsRecs.below wishK HV7.out hb hz7).mono wishK (Nat.le_trans hz7 hb.size))
      have HX8 : Hid (IsWishes w8.heap.size w8 _ l) := Lib.hid ((IsRecs.below wishK HX.out hb (Nat.le_refl _)).mono wishK hb.size)
      rw [HSV.out, HE.out]
      clear hb
      go_wp2_with fail
      refine (rsame17_any w8.heap.size w8 _ _ l l (Nat.le_refl _) HX8.out HV8.out).mono ?_
      rintro e w9 ⟨rfl, hb⟩
      have HB9 : Hid (Below w.heap.size w w9) := Lib.hid (HB8.out.trans (hb.mono HB8.out.size))
      rw [sameWs_refl]
      clear hb
      go_wp2
      go_ret
      exact ⟨by simp, HB9.out⟩
  have hsz2 : (s.size : Int) ≤ 2000 := by omega
  go_wp2_with fail
  refine (parse_any s w1 HL1.out (by omega)).mono ?_
  rintro e w2 ⟨v2, he, ho, hb⟩
  rw [hA] at he ho
  have HB2 : Hid (Below w.heap.size w w2) := Lib.hid (HB1.out.trans (hb.mono HB1.out.size))
  have HV2 : Hid (IsWishes B w2 _ l) := Lib.hid (IsRecs.below wishK HV1.out hb hz1)
  have hz2 : B ≤ w2.heap.size := Nat.le_trans hz1 hb.size
  have HX := Lib.hid (ownWs_is ho)
  have HPR := Lib.hid (fun h => parsed_prints (s := A) (by have := HA.out; omega) h)
  have HLA : Hid ((parL A).length ≤ 2000) := Lib.hid (by have := parL_len A; have := HA.out; omega)
  obtain ⟨X, hX⟩ : ∃ X, parL A = X := ⟨_, rfl⟩
  obtain ⟨E, hE⟩ : ∃ E, parE A = E := ⟨_, rfl⟩
  rw [hX] at HX HPR HLA ho
  rw [hE] at HPR he
  obtain ⟨ax, cx, rfl, hcx1, hcx2, hcx3⟩ := HX.out.form
  subst he
  clear hb ho hsz hX hE hsz2
  by_cases hE0 : E = 0
  rotate_left
  · have hEb : (E == 0) = false := by simpa using hE0
    clear hE0
    go_upto_region 11 with fail
    go_wp2_with fail
    refine (few17_any B w2 _ l hz2 HV2.out).mono ?_
    rintro e w5 ⟨rfl, hb⟩
    have HB5 : Hid (Below w.heap.size w w5) := Lib.hid (HB2.out.trans (hb.mono HB2.out.size))
    have hz5 : B ≤ w5.heap.size := Nat.le_trans hz2 hb.size
    have HV5 : Hid (IsWishes B w5 _ l) := Lib.hid (IsRecs.below wishK HV2.out hb hz2)
    clear hb
    cases hf : few17 l with
    | false =>
      clear hf
      go_wp2
      go_ret
      exact ⟨rfl, HB5.out⟩
    | true =>
      have HPF := Lib.hid (few_prFew hf)
      clear hf
      go_wp2_with fail
      refine (print_any B w5 _ l (HL0.out.below HB5.out h4) hz5 HV5.out HPF.out).mono ?_
      rintro e w6 ⟨rfl, hb⟩
      have HB6 : Hid (Below w.heap.size w w6) := Lib.hid (HB5.out.trans (hb.mono HB5.out.size))
      have hz6 : B ≤ w6.heap.size := Nat.le_trans hz5 hb.size
      have HV6 : Hid (IsWishes B w6 _ l) := Lib.hid (IsRecs.below wishK HV5.out hb hz5)
      clear hb
      obtain ⟨S, hS⟩ : ∃ S : ByteArray, S.data.toList = prS l := ⟨⟨(prS l).toArray⟩, rfl⟩
      have hSV := str_of_data hS
      have HSB := Lib.hid (prS_bad (l := l))
      have HPP := Lib.hid (printed_parses (l := l))
      have hSl := size_data S
      rw [← hS] at HSB HPP
      rw [hSl] at HPP
      rw [hSV]
      have HSV := Lib.hid hSV
      have HSD := Lib.hid hS
      clear hSV hS hSl
      obtain ⟨E, hE⟩ : ∃ E, prE l = E := ⟨_, rfl⟩
      rw [hE] at HSB HPP ⊢
      have HE := Lib.hid hE
      clear hE
      by_cases hE0 : E = 0
      rotate_left
      · obtain ⟨hs1, rfl⟩ := HSB.out hE0
        have hS0 : S = ⟨#[]⟩ := by
          obtain ⟨⟨d⟩⟩ := S
          have : d = [] := hs1
          subst this
          rfl
        subst hS0
        clear hE0 hs1
        go_wp2
        go_ret
        exact ⟨rfl, HB6.out⟩
      subst hE0
      by_cases hbig : 65536 < S.size
      · have hbig2 : (65536 : Int) < (S.size : Int) := by omega
        go_wp2
        go_ret
        exact ⟨rfl, HB6.out⟩
      have hbig2 : ¬ (65536 : Int) < (S.size : Int) := by omega
      obtain ⟨p1, p2, p3⟩ := HPP.out rfl (by omega)
      have HP := Lib.hid (And.intro p1 (And.intro p2 p3))
      clear p1 p2 p3
      go_wp2_with fail
      refine (parse_any S w6 (HL0.out.below HB6.out h4) (by omega)).mono ?_
      rintro e w7 ⟨v7, he, ho, hb⟩
      have HB7 : Hid (Below w.heap.size w w7) := Lib.hid (HB6.out.trans (hb.mono HB6.out.size))
      have HV7 : Hid (IsWishes B w7 _ l) := Lib.hid (IsRecs.below wishK HV6.out hb hz6)
      have hz7 : B ≤ w7.heap.size := Nat.le_trans hz6 hb.size
      rw [HP.out.1, HP.out.2.1] at he
      have HX := Lib.hid (ownWs_is ho)
      rw [HP.out.2.2] at HX
      obtain ⟨ax, cx, rfl, hcx1, hcx2, hcx3⟩ := HX.out.form
      subst he
      clear hb ho hbig hbig2
      go_wp2_with fail
      refine (print_any w7.heap.size w7 _ l (HL0.out.below HB7.out h4) (Nat.le_refl _) HX.out HPF.out).mono ?_
      rintro e w8 ⟨rfl, hb⟩
      have HB8 : Hid (Below w.heap.size w w8) := Lib.hid (HB7.out.trans (hb.mono HB7.out.size))
      have HV8 : Hid (IsWishes w8.heap.size w8 _ l) := Lib.hid ((IsRecs.below wishK HV7.out hb hz7).mono wishK (Nat.le_trans hz7 hb.size))
      have HX8 : Hid (IsWishes w8.heap.size w8 _ l) := Lib.hid ((IsRecs.below wishK HX.out hb (Nat.le_refl _)).mono wishK hb.size)
      rw [HSV.out, HE.out]
      clear hb
      go_wp2_with fail
      refine (rsame17_any w8.heap.size w8 _ _ l l (Nat.le_refl _) HX8.out HV8.out).mono ?_
      rintro e w9 ⟨rfl, hb⟩
      have HB9 : Hid (Below w.heap.size w w9) := Lib.hid (HB8.out.trans (hb.mono HB8.out.size))
      rw [sameWs_refl]
      clear hb
      go_wp2
      go_ret
      exact ⟨by simp, HB9.out⟩
  subst hE0
  obtain ⟨q1, q2⟩ := HPR.out rfl
  have HQ1 := Lib.hid q1
  have HQ2 := Lib.hid q2
  clear q1 q2
  go_wp2_with fail
  refine (print_any w2.heap.size w2 _ X (HL0.out.below HB2.out h4) (Nat.le_refl _) HX.out HQ1.out).mono ?_
  rintro e w3 ⟨rfl, hb⟩
  have HB3 : Hid (Below w.heap.size w w3) := Lib.hid (HB2.out.trans (hb.mono HB2.out.size))
  have HV3 : Hid (IsWishes B w3 _ l) := Lib.hid (IsRecs.below wishK HV2.out hb hz2)
  have HX3 : Hid (IsWishes w2.heap.size w3 _ X) := Lib.hid (IsRecs.below wishK HX.out hb (Nat.le_refl _))
  have hz3 : B ≤ w3.heap.size := Nat.le_trans hz2 hb.size
  have hzx : w2.heap.size ≤ w3.heap.size := hb.size
  rw [HQ2.out]
  obtain ⟨S3, hS3⟩ : ∃ S : ByteArray, S.data.toList = prS X := ⟨⟨(prS X).toArray⟩, rfl⟩
  rw [str_of_data hS3]
  clear hS3
  clear hb
  by_cases hX0 : X.length = 0
  · rw [hX0]
    go_upto_region 11 with fail
    go_wp2_with fail
    refine (few17_any B w3 _ l hz3 HV3.out).mono ?_
    rintro e w5 ⟨rfl, hb⟩
    have HB5 : Hid (Below w.heap.size w w5) := Lib.hid (HB3.out.trans (hb.mono HB3.out.size))
    have hz5 : B ≤ w5.heap.size := Nat.le_trans hz3 hb.size
    have HV5 : Hid (IsWishes B w5 _ l) := Lib.hid (IsRecs.below wishK HV3.out hb hz3)
    clear hb
    cases hf : few17 l with
    | false =>
      clear hf
      go_wp2
      go_ret
      exact ⟨rfl, HB5.out⟩
    | true =>
      have HPF := Lib.hid (few_prFew hf)
      clear hf
      go_wp2_with fail
      refine (print_any B w5 _ l (HL0.out.below HB5.out h4) hz5 HV5.out HPF.out).mono ?_
      rintro e w6 ⟨rfl, hb⟩
      have HB6 : Hid (Below w.heap.size w w6) := Lib.hid (HB5.out.trans (hb.mono HB5.out.size))
      have hz6 : B ≤ w6.heap.size := Nat.le_trans hz5 hb.size
      have HV6 : Hid (IsWishes B w6 _ l) := Lib.hid (IsRecs.below wishK HV5.out hb hz5)
      clear hb
      obtain ⟨S, hS⟩ : ∃ S : ByteArray, S.data.toList = prS l := ⟨⟨(prS l).toArray⟩, rfl⟩
      have hSV := str_of_data hS
      have HSB := Lib.hid (prS_bad (l := l))
      have HPP := Lib.hid (printed_parses (l := l))
      have hSl := size_data S
      rw [← hS] at HSB HPP
      rw [hSl] at HPP
      rw [hSV]
      have HSV := Lib.hid hSV
      have HSD := Lib.hid hS
      clear hSV hS hSl
      obtain ⟨E, hE⟩ : ∃ E, prE l = E := ⟨_, rfl⟩
      rw [hE] at HSB HPP ⊢
      have HE := Lib.hid hE
      clear hE
      by_cases hE0 : E = 0
      rotate_left
      · obtain ⟨hs1, rfl⟩ := HSB.out hE0
        have hS0 : S = ⟨#[]⟩ := by
          obtain ⟨⟨d⟩⟩ := S
          have : d = [] := hs1
          subst this
          rfl
        subst hS0
        clear hE0 hs1
        go_wp2
        go_ret
        exact ⟨rfl, HB6.out⟩
      subst hE0
      by_cases hbig : 65536 < S.size
      · have hbig2 : (65536 : Int) < (S.size : Int) := by omega
        go_wp2
        go_ret
        exact ⟨rfl, HB6.out⟩
      have hbig2 : ¬ (65536 : Int) < (S.size : Int) := by omega
      obtain ⟨p1, p2, p3⟩ := HPP.out rfl (by omega)
      have HP := Lib.hid (And.intro p1 (And.intro p2 p3))
      clear p1 p2 p3
      go_wp2_with fail
      refine (parse_any S w6 (HL0.out.below HB6.out h4) (by omega)).mono ?_
      rintro e w7 ⟨v7, he, ho, hb⟩
      have HB7 : Hid (Below w.heap.size w w7) := Lib.hid (HB6.out.trans (hb.mono HB6.out.size))
      have HV7 : Hid (IsWishes B w7 _ l) := Lib.hid (IsRecs.below wishK HV6.out hb hz6)
      have hz7 : B ≤ w7.heap.size := Nat.le_trans hz6 hb.size
      rw [HP.out.1, HP.out.2.1] at he
      have HX := Lib.hid (ownWs_is ho)
      rw [HP.out.2.2] at HX
      obtain ⟨ax, cx, rfl, hcx1, hcx2, hcx3⟩ := HX.out.form
      subst he
      clear hb ho hbig hbig2
      go_wp2_with fail
      refine (print_any w7.heap.size w7 _ l (HL0.out.below HB7.out h4) (Nat.le_refl _) HX.out HPF.out).mono ?_
      rintro e w8 ⟨rfl, hb⟩
      have HB8 : Hid (Below w.heap.size w w8) := Lib.hid (HB7.out.trans (hb.mono HB7.out.size))
      have HV8 : Hid (IsWishes w8.heap.size w8 _ l) := Lib.hid ((IsRecs.below wishK HV7.out hb hz7).mono wishK (Nat.le_trans hz7 hb.size))
      have HX8 : Hid (IsWishes w8.heap.size w8 _ l) := Lib.hid ((IsRecs.below wishK HX.out hb (Nat.le_refl _)).mono wishK hb.size)
      rw [HSV.out, HE.out]
      clear hb
      go_wp2_with fail
      refine (rsame17_any w8.heap.size w8 _ _ l l (Nat.le_refl _) HX8.out HV8.out).mono ?_
      rintro e w9 ⟨rfl, hb⟩
      have HB9 : Hid (Below w.heap.size w w9) := Lib.hid (HB8.out.trans (hb.mono HB8.out.size))
      rw [sameWs_refl]
      clear hb
      go_wp2
      go_ret
      exact ⟨by simp, HB9.out⟩
  have hX1 : (0 : Int) < (X.length : Int) := by omega
  clear hX0
  go_upto_region 11 with fail
  go_wp2_with fail
  refine (few17_any w2.heap.size w3 _ X hzx HX3.out).mono ?_
  rintro e w5 ⟨rfl, hb⟩
  have HB5 : Hid (Below w.heap.size w w5) := Lib.hid (HB3.out.trans (hb.mono HB3.out.size))
  have hz5 : w2.heap.size ≤ w5.heap.size := Nat.le_trans hzx hb.size
  have HV5 : Hid (IsWishes w2.heap.size w5 _ X) := Lib.hid (IsRecs.below wishK HX3.out hb hzx)
  clear hb
  cases hf : few17 X with
  | false =>
    clear hf
    go_wp2
    go_ret
    exact ⟨rfl, HB5.out⟩
  | true =>
    have HPF := Lib.hid (few_prFew hf)
    clear hf
    go_wp2_with fail
    refine (print_any w2.heap.size w5 _ X (HL0.out.below HB5.out h4) hz5 HV5.out HPF.out).mono ?_
    rintro e w6 ⟨rfl, hb⟩
    have HB6 : Hid (Below w.heap.size w w6) := Lib.hid (HB5.out.trans (hb.mono HB5.out.size))
    have hz6 : w2.heap.size ≤ w6.heap.size := Nat.le_trans hz5 hb.size
    have HV6 : Hid (IsWishes w2.heap.size w6 _ X) := Lib.hid (IsRecs.below wishK HV5.out hb hz5)
    clear hb
    obtain ⟨S, hS⟩ : ∃ S : ByteArray, S.data.toList = prS X := ⟨⟨(prS X).toArray⟩, rfl⟩
    have hSV := str_of_data hS
    have HSB := Lib.hid (prS_bad (l := X))
    have HPP := Lib.hid (printed_parses (l := X))
    have hSl := size_data S
    rw [← hS] at HSB HPP
    rw [hSl] at HPP
    rw [hSV]
    have HSV := Lib.hid hSV
    have HSD := Lib.hid hS
    clear hSV hS hSl
    obtain ⟨E, hE⟩ : ∃ E, prE X = E := ⟨_, rfl⟩
    rw [hE] at HSB HPP ⊢
    have HE := Lib.hid hE
    clear hE
    by_cases hE0 : E = 0
    rotate_left
    · obtain ⟨hs1, rfl⟩ := HSB.out hE0
      have hS0 : S = ⟨#[]⟩ := by
        obtain ⟨⟨d⟩⟩ := S
        have : d = [] := hs1
        subst this
        rfl
      subst hS0
      clear hE0 hs1
      go_wp2
      go_ret
      exact ⟨rfl, HB6.out⟩
    subst hE0
    by_cases hbig : 65536 < S.size
    · have hbig2 : (65536 : Int) < (S.size : Int) := by omega
      go_wp2
      go_ret
      exact ⟨rfl, HB6.out⟩
    have hbig2 : ¬ (65536 : Int) < (S.size : Int) := by omega
    obtain ⟨p1, p2, p3⟩ := HPP.out rfl (by omega)
    have HP := Lib.hid (And.intro p1 (And.intro p2 p3))
    clear p1 p2 p3
    go_wp2_with fail
    refine (parse_any S w6 (HL0.out.below HB6.out h4) (by omega)).mono ?_
    rintro e w7 ⟨v7, he, ho, hb⟩
    have HB7 : Hid (Below w.heap.size w w7) := Lib.hid (HB6.out.trans (hb.mono HB6.out.size))
    have HV7 : Hid (IsWishes w2.heap.size w7 _ X) := Lib.hid (IsRecs.below wishK HV6.out hb hz6)
    have hz7 : w2.heap.size ≤ w7.heap.size := Nat.le_trans hz6 hb.size
    rw [HP.out.1, HP.out.2.1] at he
    have HX := Lib.hid (ownWs_is ho)
    rw [HP.out.2.2] at HX
    obtain ⟨ax, cx, rfl, hcx1, hcx2, hcx3⟩ := HX.out.form
    subst he
    clear hb ho hbig hbig2
    go_wp2_with fail
    refine (print_any w7.heap.size w7 _ X (HL0.out.below HB7.out h4) (Nat.le_refl _) HX.out HPF.out).mono ?_
    rintro e w8 ⟨rfl, hb⟩
    have HB8 : Hid (Below w.heap.size w w8) := Lib.hid (HB7.out.trans (hb.mono HB7.out.size))
    have HV8 : Hid (IsWishes w8.heap.size w8 _ X) := Lib.hid ((IsRecs.below wishK HV7.out hb hz7).mono wishK (Nat.le_trans hz7 hb.size))
    have HX8 : Hid (IsWishes w8.heap.size w8 _ X) := Lib.hid ((IsRecs.below wishK HX.out hb (Nat.le_refl _)).mono wishK hb.size)
    rw [HSV.out, HE.out]
    clear hb
    go_wp2_with fail
    refine (rsame17_any w8.heap.size w8 _ _ X X (Nat.le_refl _) HX8.out HV8.out).mono ?_
    rintro e w9 ⟨rfl, hb⟩
    have HB9 : Hid (Below w.heap.size w w9) := Lib.hid (HB8.out.trans (hb.mono HB8.out.size))
    rw [sameWs_refl]
    clear hb
    go_wp2
    go_ret
    exact ⟨by simp, HB9.out⟩
end Go.Proofs.YtfnmidddgjlipaaDoor

/-
  What came in, opened: lists of records of any kind; strings, orders.
-/
set_option linter.unusedVariables false
set_option linter.unusedSimpArgs false
namespace Go.Proofs.YtfnmidddgjlipaaDoor
open Go.ChangeShapes Go.WideShapes Go.ChangeAt Go.RowKit Go.Deep

theorem cell_spot {w : World} {a : Addr} {v : Value} (h : w.cell? a = some v) : a.spot = none ∧ a.block < w.heap.size := by
  unfold World.cell? at h
  split at h
  · rename_i c t x hc
    refine ⟨?_, (Array.getElem?_eq_some_iff.1 hc).1⟩
    cases hs : a.spot with
    | none => rfl
    | some n => simp [hs] at h
  · cases h
theorem I64.of_wf {n : Int} (h : (Lit.int .i64 n).wf = true) : I64 n := by
  simp [Lit.wf, IntKind.min, IntKind.max, IntKind.signed, IntKind.bits] at h
  unfold I64
  omega
variable {H : Type} {enc : TypeId × Value → H} {w : World}
theorem weightsAll_mem {P : Program} {e : TypeId} {d : DataW H} {n : Nat} : ∀ {l : List (DataW H)}, d ∈ l → n ∈ d.weights P e → n ∈ DataW.weightsAll P e l
  | [], h, _ => by cases h
  | x :: r, h, hn => by
    simp only [DataW.weightsAll, List.mem_append]
    rcases List.mem_cons.1 h with rfl | h
    · exact Or.inl hn
    · exact Or.inr (weightsAll_mem h hn)
/-- a list of records that came in -/
theorem open_recs {D : Type} {k : Nat} {R : Nat → World → List Value → D → Prop} {L bt : Nat} {d0 : D} {ty t : TypeId} (hR : RecK k R) (hk : 0 < k) (hu : Tryd.prog.underlying t = some (.slice ty)) (hC : Tryd.prog.cellsOf ty = k) (hb : Tryd.prog.bytesOf ty = bt) (hL : 140737488351232 < (L + 1) * bt)
    (ho : ∀ {fuel c x}, DataW.trod enc Tryd.prog w 0 (fun _ => true) true fuel ty c = some x → (∀ n ∈ x.1.weights Tryd.prog ty, n ≤ reachBytes) → ∃ d, R w.heap.size w c d)
    {fuel : Nat} {v : Value} {x : DataW H × List MemPlace} (h : DataW.trod enc Tryd.prog w 0 (fun _ => true) true fuel t [v] = some x) (hsz : ∀ n ∈ x.1.weights Tryd.prog t, n ≤ reachBytes) : ∃ xs, IsRecs k R L d0 w.heap.size w v xs := by
  rcases open_slice hu h with ⟨hv, rfl⟩ | ⟨a, len, cap, m, n, D', Pl, hv, _, hl, hm, hmm, rfl, hx⟩
  · cases hv
    exact ⟨[], IsRecs.nil⟩
  · cases hv
    simp only [if_true] at hmm
    subst hmm
    have h8 := hsz ((((List.range len).map D').length + ((List.range (m - len)).map fun j => D' (len + j)).length) * Tryd.prog.bytesOf ty) (by simp only [DataW.weights, hu]; exact List.mem_cons_self)
    rw [hb] at h8
    simp only [List.length_map, List.length_range] at h8
    unfold reachBytes at h8
    have hbt : 0 < bt := by
      rcases Nat.eq_zero_or_pos bt with e | e
      · subst e; omega
      · exact e
    have hlL : len ≤ L := by
      refine Nat.le_of_not_lt fun hlt => ?_
      have h9 : (L + 1) * bt ≤ (len + (m - len)) * bt := Nat.mul_le_mul_right _ (by omega)
      omega
    have hel : ∀ i, i < len → ∃ (d : D) (cs : List Value), (w.cells? 0 (a.add (i * k)) k = some cs) ∧ R w.heap.size w cs d := by
      intro i hi
      obtain ⟨cs', h1, h2⟩ := hx i (by omega)
      rw [hC] at h1
      obtain ⟨d, hd⟩ := ho h2 (fun n hn => hsz n (by
        simp only [DataW.weights, hu]
        exact List.mem_cons_of_mem _ (List.mem_append_left _ (weightsAll_mem (List.mem_map.2 ⟨i, List.mem_range.2 hi, rfl⟩) hn))))
      exact ⟨d, cs', h1, hd⟩
    haveI : Inhabited D := ⟨d0⟩
    obtain ⟨F, hF⟩ := choose_lt (α := D) (p := fun i d => ∃ cs, (w.cells? 0 (a.add (i * k)) k = some cs) ∧ R w.heap.size w cs d) (fun i hi => hel i hi)
    have hn : ((List.range len).map F).length = len := by simp
    have hsp : 0 < len → a.spot = none := by
      intro h0
      obtain ⟨d, cs, h1, _⟩ := hel 0 h0
      obtain ⟨_, h3, h2⟩ := World.cells?_some h1
      have h4 := h2 0 hk
      rw [List.getElem?_eq_getElem (by omega)] at h4
      simp [Addr.add] at h4
      exact (cell_spot h4).1
    refine ⟨(List.range len).map F, a.block, a.off, m, ⟨some a, by rw [hn], by omega, by unfold maxLen at hm; omega, ?_⟩, by omega, fun j hj => ?_⟩
    · by_cases h0 : len = 0
      · exact Or.inr (by omega)
      · left
        have := hsp (by omega)
        obtain ⟨b, o, sp⟩ := a
        simp at this
        rw [this]
    · rw [hn] at hj
      have h0 := hsp (by omega)
      obtain ⟨b, o, sp⟩ := a
      simp at h0
      subst h0
      obtain ⟨cs, h1, h2⟩ := hF j hj
      have hat : ((List.range len).map F).getD j d0 = F j := by
        rw [List.getD_eq_getElem?_getD]
        simp [hj]
      obtain ⟨_, h3, hc⟩ := World.cells?_some h1
      rw [add_plain] at hc
      rw [hat]
      refine ⟨cs, fun q u hq => ?_, h2⟩
      have hql : q < k := by have := (List.getElem?_eq_some_iff.1 hq).1; omega
      have h5 := hc q hql
      rw [add_plain, hq] at h5
      exact ⟨(cell_spot h5).2, h5⟩

theorem open_str1 {fuel : Nat} {c : List Value} {x : DataW H × List MemPlace} (h : DataW.trod enc Tryd.prog w 0 (fun _ => true) true fuel 9 c = some x)
    (hsz : ∀ n ∈ x.1.weights Tryd.prog 9, n ≤ reachBytes) : ∃ d, strR w.heap.size w c d := by
  obtain ⟨s, e1, hy, _⟩ := DataW.trod_string Tryd.underlying9 h
  have hb := str_bound (s := s) (d := x.1) (by rw [hy]) hsz
  exact ⟨s.data.toList, e1, by rw [Array.length_toList]; exact hb⟩
theorem open_strs0 {fuel : Nat} {v : Value} {x : DataW H × List MemPlace} (h : DataW.trod enc Tryd.prog w 0 (fun _ => true) true fuel 46 [v] = some x)
    (hsz : ∀ n ∈ x.1.weights Tryd.prog 46, n ≤ reachBytes) : ∃ xs, IsStrs w.heap.size w v xs :=
  open_recs strK (by decide) Tryd.underlying46 (by kernel_rfl) (by kernel_rfl) (bt := 16) (by decide) (fun h hs => open_str1 h hs) h hsz
set_option maxRecDepth 100000 in
theorem open_wishC {fuel : Nat} {c : List Value} {x : DataW H × List MemPlace} (h : DataW.trod enc Tryd.prog w 0 (fun _ => true) true fuel 48 c = some x)
    (hsz : ∀ n ∈ x.1.weights Tryd.prog 48, n ≤ reachBytes) : ∃ d, wishR w.heap.size w c d := by
  obtain ⟨xs, n, _, rfl, hl, hlen, hf⟩ := DataW.trod_struct Tryd.underlying48 h
  have hC : Tryd.prog.cellsOf 48 = 11 := by kernel_rfl
  have ki : Tryd.prog.cellsOf 3 = 1 := by kernel_rfl
  have ks : Tryd.prog.cellsOf 9 = 1 := by kernel_rfl
  have kb : Tryd.prog.cellsOf 4 = 1 := by kernel_rfl
  have kl : Tryd.prog.cellsOf 46 = 1 := by kernel_rfl
  rw [hC] at hl
  match xs, hlen, c, hl with
  | [y0, y1, y2, y3, y4, y5, y6, y7, y8, y9, y10], _, [v0, v1, v2, v3, v4, v5, v6, v7, v8, v9, v10], _ =>
    have h0 := hf 0 _ rfl
    have h1 := hf 1 _ rfl
    have h2 := hf 2 _ rfl
    have h3 := hf 3 _ rfl
    have h4 := hf 4 _ rfl
    have h5 := hf 5 _ rfl
    have h6 := hf 6 _ rfl
    have h7 := hf 7 _ rfl
    have h8 := hf 8 _ rfl
    have h9 := hf 9 _ rfl
    have h10 := hf 10 _ rfl
    simp only [ki, ks, kb, kl, List.drop_zero, List.drop_succ_cons, List.take_succ_cons, List.take_zero, List.getElem?_cons_zero, List.getElem?_cons_succ, Option.getD_some] at h0 h1 h2 h3 h4 h5 h6 h7 h8 h9 h10
    have hw : ∀ n ∈ DataW.weightsEach Tryd.prog [9, 9, 9, 9, 3, 3, 3, 3, 46, 4, 3] [y0.1, y1.1, y2.1, y3.1, y4.1, y5.1, y6.1, y7.1, y8.1, y9.1, y10.1], n ≤ reachBytes := by
      intro n hn
      refine hsz n ?_
      simp only [DataW.weights, Tryd.underlying48]
      exact hn
    obtain ⟨z0, e0, w0⟩ := open_str1 h0 (fun n hn => hw n (DataW.weights_mem_each (j := 0) (t := 9) rfl rfl n hn))
    obtain ⟨z1, e1, w1⟩ := open_str1 h1 (fun n hn => hw n (DataW.weights_mem_each (j := 1) (t := 9) rfl rfl n hn))
    obtain ⟨z2, e2, w2⟩ := open_str1 h2 (fun n hn => hw n (DataW.weights_mem_each (j := 2) (t := 9) rfl rfl n hn))
    obtain ⟨z3, e3, w3⟩ := open_str1 h3 (fun n hn => hw n (DataW.weights_mem_each (j := 3) (t := 9) rfl rfl n hn))
    obtain ⟨z4, e4, _, w4⟩ := DataW.trod_int Tryd.underlying3 h4
    obtain ⟨z5, e5, _, w5⟩ := DataW.trod_int Tryd.underlying3 h5
    obtain ⟨z6, e6, _, w6⟩ := DataW.trod_int Tryd.underlying3 h6
    obtain ⟨z7, e7, _, w7⟩ := DataW.trod_int Tryd.underlying3 h7
    obtain ⟨z8, w8⟩ := open_strs0 h8 (fun n hn => hw n (DataW.weights_mem_each (j := 8) (t := 46) rfl rfl n hn))
    obtain ⟨z9, e9, _⟩ := DataW.trod_bool Tryd.underlying4 h9
    obtain ⟨z10, e10, _, w10⟩ := DataW.trod_int Tryd.underlying3 h10
    cases e0
    cases e1
    cases e2
    cases e3
    cases e4
    cases e5
    cases e6
    cases e7
    cases e9
    cases e10
    exact ⟨⟨z0, z1, z2, z3, z4, z5, z6, z7, z8, z9, z10⟩, v8, rfl, w8, w0, w1, w2, w3, I64.of_wf w4, I64.of_wf w5, I64.of_wf w6, I64.of_wf w7, I64.of_wf w10⟩
theorem open_wishes0 {fuel : Nat} {v : Value} {x : DataW H × List MemPlace} (h : DataW.trod enc Tryd.prog w 0 (fun _ => true) true fuel 22 [v] = some x)
    (hsz : ∀ n ∈ x.1.weights Tryd.prog 22, n ≤ reachBytes) : ∃ xs, IsWishes w.heap.size w v xs :=
  open_recs wishK (by decide) Tryd.underlying22 (by kernel_rfl) (by kernel_rfl) (bt := 136) (by decide) (fun h hs => open_wishC h hs) h hsz

theorem open_IsWishes {v : Value} {d : DataW H} {p : List MemPlace} (hcs : v.cells.toList = [v]) (h : DataW.Trod enc Tryd.prog w 0 (fun _ => true) true 22 v d p)
    (hsz : ∀ n ∈ d.weights Tryd.prog 22, n ≤ reachBytes) : ∃ l, IsWishes w.heap.size w v l := by
  obtain ⟨fuel, hf⟩ := h
  rw [hcs] at hf
  exact open_wishes0 hf hsz
end Go.Proofs.YtfnmidddgjlipaaDoor

/-
  SyntaxBack holds, and its card: for all arguments the law returns true, and the arguments read as before.
  Conditions: what the row lists of package-level variables; the card ties that to the program's text.
-/
set_option linter.unusedVariables false
set_option linter.unusedSimpArgs false
namespace Go.Proofs.YtfnmidddgjlipaaDoor
open Go.ChangeShapes Go.WideShapes Go.ChangeAt Go.RowKit
open Go.ChangeMaps (open_string shut_string)

set_option maxRecDepth 100000 in
theorem syntaxBack_lifted (os : Os) (started : os.Started) (H : Type) (enc : TypeId × Value → H) :
    ReturnsInHanded {} Tryd.checked os 3 .any (fun w args => (Rows.syntaxBackSpec.pre enc Tryd.prog Tryd.f3 Rows.syntaxBackRow.domain false w args ∧ laidMetH Tryd.prog laid5 w) ∧ sizedMet enc Tryd.prog Tryd.f3 (OpenSpec.ofChange Rows.syntaxBackSpec) false w args)
      (Rows.syntaxBackSpec.post enc Tryd.prog Tryd.f3 false true false false) := by
  refine returnsInHanded_of_change_and (C := Tryd.checked) (X := fun w _ => laidMetH Tryd.prog laid5 w) (fun _ _ _ hh h => h.of_heap hh) seat_own started (by kernel_rfl) Tryd.func3
    (ChangeSpec.witness_shaped (enc := enc) (C := Tryd.checked) (os := os) (X := fun w _ => laidMetH Tryd.prog laid5 w) false (World.doorLaid Tryd.prog 400 os) #[.string ByteArray.empty, .slice none 0 0] 8 rfl (World.shaped_of_RefB (by kernel_rfl) (by kernel_rfl)) (by kernel_rfl) (by kernel_rfl) (by kernel_rfl) (door_met os _)) ?_
  intro W base args ds gs before hval0 hW _ hsz0 hL0 _
  have hsz : (DataW.weightsEach Tryd.prog (Tryd.f3.params.toList ++ Rows.syntaxBackSpec.plain.varTypes Tryd.prog) (ds ++ gs)).all (· ≤ reachBytes) = true := hsz0
  have hval : ∀ (j : Nat) t v, Tryd.f3.params[j]? = some t → args[j]? = some v → Value.okWide Tryd.prog W .any base t v := hval0
  have HL := laid_of hL0
  have hW' := hW
  obtain ⟨p, q, hA0, hV, rfl, hfz, hnd⟩ := hW
  have hA : DataW.TrodAll enc Tryd.prog W 0 (fun _ => true) true Tryd.f3.params.toList args.toList ds p := hA0
  rw [Tryd.params3] at hA hval hsz
  obtain ⟨v0, vs0, d0, ds0, p0, q0, e0, rfl, rfl, h0, r0⟩ := trodAll_cons hA
  obtain ⟨v1, vs1, d1, ds1, p1, q1, rfl, rfl, rfl, h1, r1⟩ := trodAll_cons r0
  obtain ⟨rfl, rfl, rfl⟩ := trodAll_nil r1
  obtain rfl : args = #[v0, v1] := by cases args; simp_all
  obtain ⟨rfl, rfl⟩ := trodVars_none hV
  have hw : ∀ n ∈ DataW.weightsEach Tryd.prog [9, 22] [d0, d1], n ≤ reachBytes := by
    intro n hn
    have := List.all_eq_true.1 hsz n hn
    simpa using this
  have z_s : d0.weights Tryd.prog 9 = d0.weights Tryd.prog 9 := rfl
  obtain ⟨s, rfl, hd_s, hp_s, s_s⟩ := open_string Tryd.underlying9 (hval 0 9 v0 rfl rfl) h0
  have b_s : s.size ≤ 140737488351232 := str_bound (d := d0) hd_s (fun n hn => hw n (DataW.weights_mem_each (j := 0) (t := 9) rfl rfl n hn))
  obtain ⟨a_l, l_l, c_l, rfl⟩ := okWide_slice Tryd.underlying22 (hval 1 22 v1 rfl rfl)
  obtain ⟨l, h_l⟩ := open_IsWishes rfl h1 (fun n hn => hw n (DataW.weights_mem_each (j := 1) (t := 22) rfl rfl n hn))
  have hlt := hW'.lt
  simp only [List.append_nil] at hW' hlt
  refine (syntaxBack_any W.heap.size s _ l W HL b_s (Nat.le_refl _) h_l).mono fun e W' ⟨he, hb⟩ => ?_
  subst he
  refine ⟨_, rfl, _, _, _, [], p0 ++ (p1 ++ []), [], hW', trodAll_mk1 (shut_bool Tryd.underlying4 _), ?_, rfl, hb.frame _, fun h => by cases h⟩
  exact trodAll_cons_mk (hb.trod seat_laidOut (by kernel_rfl) (of_decide_eq_true (by kernel_rfl)) h0 (fun x hx => hlt x (by simp [hx]))) 
    (trodAll_cons_mk (hb.trod seat_laidOut (by kernel_rfl) (of_decide_eq_true (by kernel_rfl)) h1 (fun x hx => hlt x (by simp [hx]))) trodAll_mk0)

theorem syntaxBack_row : Rows.SyntaxBackSaid :=
  OpenClaim.holds_of_wide 3 Tryd.f3 rfl rfl rfl rfl rfl rfl rfl ⟨rfl, rfl, rfl, rfl, rfl⟩ rfl rfl rfl rfl rfl (by kernel_rfl) Tryd.func3 (by kernel_rfl)
    (of_decide_eq_true (by kernel_rfl)) (by unfold Func.isWrapper; first | (rw [if_pos (by decide +kernel)]; kernel_rfl) | (rw [if_neg (by decide +kernel)]; exact ⟨rfl, rfl⟩))
    (fun os started H enc _ => syntaxBack_lifted os started H enc)

theorem syntaxBack_holds : Rows.SyntaxBackCardSaid :=
  Claim7.holds_tied_plain_at .later [] [.data, .data, .data, .sentinel, .sentinel] true (true, "da7a53e2027b82d315f4c166b4b434db3249eefb495583a5a09f6f3e4ee5379c") true
    syntaxBack_row (fun _ h => by cases h) (by kernel_rfl) (fun _ h => by cases h) syntaxBack_row_tie rfl ⟨rfl, rfl⟩ (by kernel_rfl) rfl
    (fun f fn hf hfn => by
      obtain rfl : f = 3 := Option.some.inj ((show Tryd.prog.funcNamed Rows.syntaxBackRow.func = some 3 by kernel_rfl).symm.trans hf) |>.symm
      obtain rfl : fn = Tryd.f3 := (Option.some.inj (Tryd.func3.symm.trans hfn)).symm
      exact ⟨by kernel_rfl, fun j t ht => by
        rw [Tryd.params3] at ht
        have hm : t ∈ [9, 22] := by simpa using Array.mem_of_getElem? ht
        have hall : ([9, 22].all fun u => !Tryd.prog.wantsStandIn u) = true := by kernel_rfl
        exact (show Tryd.prog.wantsStandIn t = false by simpa using List.all_eq_true.1 hall t hm)⟩)
    (by kernel_rfl)

end Go.Proofs.YtfnmidddgjlipaaDoor
