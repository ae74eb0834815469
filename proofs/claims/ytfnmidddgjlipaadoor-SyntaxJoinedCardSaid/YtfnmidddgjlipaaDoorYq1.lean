/-
  SyntaxJoined holds, and its card: for all arguments the law returns true, and the arguments read as before.
  Conditions: what the row lists of package-level variables; the card ties that to the program's text.
-/
import Derived.Test.YtfnmidddgjlipaaDoorY13
import Derived.Test.YtfnmidddgjlipaaDoorY21
import Derived.Test.YtfnmidddgjlipaaDoorLd
import Derived.Test.YtfnmidddgjlipaaDoorCards
import Derived.Test.YtfnmidddgjlipaaDoorTie
import Derived.SevenTiedAt
/-
  Layer 17, plain: the orders of two sources, one after the other.
-/
set_option linter.unusedVariables false
set_option linter.unusedSimpArgs false
namespace Go.Proofs.YtfnmidddgjlipaaDoor

theorem suffix_drop {α : Type} {r l : List α} (h : r <:+ l) : r = l.drop (l.length - r.length) := by
  obtain ⟨p, rfl⟩ := h
  simp
/-- tokens at other places: the same orders, the same wrong token -/
theorem read_map (g : Tok → Tok) (hg : ∀ t, erase (g t) = erase t) (l : List Tok) : pRead (l.map g) = match pRead l with
    | .error r => .error (r.map g)
    | .ok xs => .ok xs := by
  have h := eras_read (l := l.map g) (l' := l) (by rw [List.map_map]; congr 1; funext t; exact hg t)
  cases e1 : pRead (l.map g) with
  | error r1 =>
    cases e2 : pRead l with
    | error r2 =>
      rw [e1, e2] at h
      have hl : r1.length = r2.length := by have := congrArg List.length (show r1.map erase = r2.map erase from h); simpa using this
      have s1 := suffix_drop (read_end _ _ (Nat.le_refl _) _ e1)
      have s2 := suffix_drop (read_end _ _ (Nat.le_refl _) _ e2)
      simp only
      rw [s1, s2, List.length_map, hl, List.map_drop]
    | ok x2 => rw [e1, e2] at h; exact h.elim
  | ok x1 =>
    cases e2 : pRead l with
    | error r2 => rw [e1, e2] at h; exact h.elim
    | ok x2 => rw [e1, e2] at h; exact congrArg _ h
theorem parL_bad {s : List UInt8} (h : parE s ≠ 0) : parL s = [] := by
  unfold parE at h
  unfold parL
  by_cases h0 : lexE s = 0
  · rw [if_pos h0] at h ⊢
    unfold readE at h
    unfold readL
    cases e : pRead (lexT s) with
    | ok xs => rw [e] at h; exact absurd rfl h
    | error r => rfl
  · rw [if_neg h0]
theorem lex_out {s : List UInt8} (hs : s.length ≤ 65536) : (∃ i, (lexA s 0).2 = some i ∧ lexE s = 30 ∧ lexP s = i ∧ lexT s = []) ∨ ((lexA s 0).2 = none ∧ lexE s = 0 ∧ lexP s = 0 ∧ lexT s = (lexA s 0).1) := by
  have h : ¬ s.length > 65536 := by omega
  unfold lexE lexP lexT
  rw [if_neg h, if_neg h, if_neg h]
  cases e : (lexA s 0).2 with
  | none => right; simp
  | some i => left; exact ⟨i, rfl, by simp, by simp, by simp⟩
theorem joined_law {a b : List UInt8} (ha : a.length ≤ 2000) (hb : b.length ≤ 2000) (he : parE a = 0) :
    (parE b ≠ 0 → parE (a ++ 10 :: b) = parE b ∧ parP (a ++ 10 :: b) = parP b + a.length + 1 ∧ parL (a ++ 10 :: b) = []) ∧
    (parE b = 0 → parE (a ++ 10 :: b) = 0 ∧ parP (a ++ 10 :: b) = 0 ∧ parL (a ++ 10 :: b) = parL a ++ parL b) := by
  have hc : (a ++ 10 :: b).length ≤ 65536 := by simp; omega
  have hla : lexE a = 0 := by
    rcases lex_out (show a.length ≤ 65536 by omega) with ⟨i, h1, h2, h3, h4⟩ | ⟨h1, h2, _⟩
    · unfold parE at he; rw [if_neg (by rw [h2]; decide), h2] at he; cases he
    · exact h2
  obtain ⟨a1, a2, a3, a4⟩ : (lexA a 0).2 = none ∧ lexE a = 0 ∧ lexP a = 0 ∧ lexT a = (lexA a 0).1 := by
    rcases lex_out (show a.length ≤ 65536 by omega) with ⟨i, h1, h2, h3, h4⟩ | h
    · rw [h2] at hla; cases hla
    · exact h
  have hra : ∃ xs, pRead (lexT a) = .ok xs := by
    unfold parE at he
    rw [if_pos hla] at he
    unfold readE at he
    cases e : pRead (lexT a) with
    | ok xs => exact ⟨xs, rfl⟩
    | error r => rw [e] at he; cases he
  obtain ⟨xs, hxs⟩ := hra
  have hj := lexA_join b a 0
  rw [a1] at hj
  simp only at hj
  have hsh := lexA_shift (a.length + 1) b 0
  rw [show 0 + a.length + 1 = 0 + (a.length + 1) by omega, hsh] at hj
  have hLa : parL a = xs := by unfold parL readL; rw [if_pos hla, hxs]
  rcases lex_out (show b.length ≤ 65536 by omega) with ⟨i, b1, b2, b3, b4⟩ | ⟨b1, b2, b3, b4⟩
  · rw [b1] at hj
    simp only [Option.map_some] at hj
    have hpe : parE b = 30 := by unfold parE; rw [if_neg (by rw [b2]; decide), b2]
    have hpp : parP b = i := by unfold parP; rw [if_neg (by rw [b2]; decide), b3]
    rcases lex_out hc with ⟨k, c1, c2, c3, c4⟩ | ⟨c1, _⟩
    · rw [hj] at c1
      simp only [Option.some.injEq] at c1
      refine ⟨fun _ => ⟨?_, ?_, ?_⟩, fun h => by rw [hpe] at h; cases h⟩
      · unfold parE; rw [if_neg (by rw [c2]; decide), c2]; exact hpe.symm
      · unfold parP; rw [if_neg (by rw [c2]; decide), c3]
        unfold parP at hpp
        rw [hpp]
        omega
      · unfold parL; rw [if_neg (by rw [c2]; decide)]
    · rw [hj] at c1; cases c1
  · rw [b1] at hj
    simp only [Option.map_none] at hj
    rcases lex_out hc with ⟨k, c1, _⟩ | ⟨c1, c2, c3, c4⟩
    · rw [hj] at c1; cases c1
    have hT : lexT (a ++ 10 :: b) = lexT a ++ (lexT b).map (shiftT (a.length + 1)) := by rw [c4, hj, a4, b4]
    have hm := read_map (shiftT (a.length + 1)) (fun t => rfl) (lexT b)
    have hr := read_app _ (lexT a) ((lexT b).map (shiftT (a.length + 1))) xs (Nat.le_refl _) hxs
    rw [hm] at hr
    cases eb : pRead (lexT b) with
    | error r =>
      rw [eb] at hr
      simp only at hr
      have hpe : parE b = 170 := by unfold parE readE; rw [if_pos b2, eb]
      have hpp : parP b = placeOf b.length r := by unfold parP readP; rw [if_pos b2, eb]
      refine ⟨fun _ => ⟨?_, ?_, ?_⟩, fun h => by rw [hpe] at h; cases h⟩
      · unfold parE readE; rw [if_pos c2, hT, hr]; exact hpe.symm
      · unfold parP readP; rw [if_pos c2, hT, hr]
        unfold parP readP at hpp
        rw [hpp]
        cases r with
        | nil => simp [placeOf]; omega
        | cons t u => simp [placeOf, shiftT]; omega
      · unfold parL readL; rw [if_pos c2, hT, hr]
    | ok ys =>
      rw [eb] at hr
      simp only at hr
      have hpe : parE b = 0 := by unfold parE readE; rw [if_pos b2, eb]
      have hLb : parL b = ys := by unfold parL readL; rw [if_pos b2, eb]
      refine ⟨fun h => absurd hpe h, fun _ => ⟨?_, ?_, ?_⟩⟩
      · unfold parE readE; rw [if_pos c2, hT, hr]
      · unfold parP readP; rw [if_pos c2, hT, hr]
      · rw [hLa, hLb]; unfold parL readL; rw [if_pos c2, hT, hr]
theorem read_len : ∀ (n : Nat) (l : List Tok) (xs : List WishD), l.length ≤ n → pRead l = .ok xs → xs.length ≤ l.length
  | _, [], xs, _, h => by cases h; simp
  | 0, t :: u, xs, hn, h => by simp at hn
  | n + 1, t :: u, xs, hn, h => by
    rw [read_cons (by simp)] at h
    cases e : pOrder (t :: u) with
    | error s => rw [e] at h; cases h
    | ok v =>
      obtain ⟨x, r⟩ := v
      rw [e] at h
      simp only at h
      obtain ⟨t', u', he, hsf⟩ := order_some e
      injection he with _ he
      subst he
      have hlen := hsf.length_le
      simp only [List.length_cons] at hn
      cases e2 : pRead r with
      | error s => rw [e2] at h; cases h
      | ok ys =>
        rw [e2] at h
        cases h
        have := read_len n r ys (by omega) e2
        simp only [List.length_cons]
        omega
theorem lexT_short (l : List UInt8) : (lexT l).length ≤ l.length := by
  unfold lexT
  split
  · simp
  · split
    · exact lexA_len l 0
    · simp
theorem parL_len (s : List UInt8) : (parL s).length ≤ s.length := by
  unfold parL
  split
  · unfold readL
    cases e : pRead (lexT s) with
    | error r => simp
    | ok xs =>
      have := read_len _ _ _ (Nat.le_refl _) e
      have := lexT_short s
      simp only
      omega
  · simp
theorem lexA_posY (l : List UInt8) : ∀ at_ : Nat, ∀ t ∈ (lexA l at_).1, (at_ : Int) ≤ t.pos ∧ t.pos < (at_ : Int) + l.length := by
  refine lex_induct (P := fun l => ∀ at_ : Nat, ∀ t ∈ (lexA l at_).1, (at_ : Int) ≤ t.pos ∧ t.pos < (at_ : Int) + l.length) ?_ ?_ ?_ l
  · intro at_ t h; rw [lexA_nil] at h; cases h
  · intro l hl h at_ t ht; rw [lexA_bad hl h] at ht; cases ht
  · intro l k o h ih at_ t ht
    have h1 := step_pos h
    rw [lexA_step h] at ht
    have key : ∀ t ∈ (lexA (l.drop k) (at_ + k)).1, (at_ : Int) ≤ t.pos ∧ t.pos < (at_ : Int) + l.length := by
      intro t ht
      have := ih (at_ + k) t ht
      rw [List.length_drop] at this
      omega
    cases o with
    | none => exact key t ht
    | some u =>
      rcases List.mem_cons.1 ht with rfl | ht
      · simp only; omega
      · exact key t ht
theorem parP_bd {s : List UInt8} (hs : s.length ≤ 65536) : 0 ≤ parP s ∧ parP s ≤ s.length := by
  unfold parP
  rcases lex_out hs with ⟨i, h1, h2, h3, h4⟩ | ⟨h1, h2, h3, h4⟩
  · rw [if_neg (by rw [h2]; decide), h3]
    have := (lexA_err s 0 i h1).2.1
    omega
  · rw [if_pos h2]
    unfold readP
    cases e : pRead (lexT s) with
    | ok xs => simp
    | error r =>
      cases r with
      | nil => simp [placeOf]
      | cons t u =>
        have hm := (read_end _ _ (Nat.le_refl _) _ e).subset (List.mem_cons_self ..)
        rw [h4] at hm
        have := lexA_posY s 0 t hm
        simp only [placeOf]
        omega
end Go.Proofs.YtfnmidddgjlipaaDoor

/-
  Layer 17: the walk of SyntaxJoined.
-/
set_option linter.unusedVariables false
set_option linter.unusedSimpArgs false
namespace Go.Proofs.YtfnmidddgjlipaaDoor
open Go.RowKit

theorem wpList_yes {P : Program} {ops : Array Oper} {rest : List Oper} {o : Oper} {a : Act} {w : World} {Q : Exit → Act → World → Prop} (hw : Region.wanted o (yielded ops a.tmps) = true)
    (h : ∀ K : Act → World → Prop, (∀ a w, wpList P ops Q rest a w → K a w) → o.wp P a w K Q) : wpList P ops Q (o :: rest) a w :=
  wpList_step fun K hK => by rw [if_pos hw]; exact h K hK
theorem data_appY (a b : ByteArray) : (a ++ b).data.toList = a.data.toList ++ b.data.toList := by simp [ByteArray.data_append]
set_option maxHeartbeats 8000000 in
set_option maxRecDepth 100000 in
theorem syntaxJoined_any (s t : ByteArray) (w : World) (hL : LaidW w) (hs : s.size ≤ 140737488351232) (ht : t.size ≤ 140737488351232) :
    Calls Tryd.prog 5 #[.string s, .string t] w fun e w' => e = .returned (.bool true) ∧ Below w.heap.size w w' := by
  have HL0 := Lib.hid hL
  have h4 := hL.size
  have hlen := size_data s
  have hlen2 := size_data t
  clear hL
  go_enter Tryd.func5, Tryd.ntmps5
  go_wp2_with fail
  refine (sane17_any w HL0.out).mono ?_
  rintro e w1 ⟨rfl, hb⟩
  have HB1 := Lib.hid hb
  have HL1 := Lib.hid (HL0.out.below hb h4)
  clear hb
  by_cases hbig : 2000 < s.size
  · have hbig2 : (2000 : Int) < (s.size : Int) := by omega
    clear hlen hlen2
    go_wp2
    go_ret
    exact ⟨rfl, HB1.out⟩
  by_cases hbig3 : 2000 < t.size
  · have hbig2 : ¬ (2000 : Int) < (s.size : Int) := by omega
    have hbig4 : (2000 : Int) < (t.size : Int) := by omega
    clear hlen hlen2
    go_wp2
    go_ret
    exact ⟨rfl, HB1.out⟩
  have hs2 : (s.size : Int) ≤ 2000 := by omega
  have ht2 : (t.size : Int) ≤ 2000 := by omega
  obtain ⟨A, hA⟩ : ∃ A, s.data.toList = A := ⟨_, rfl⟩
  obtain ⟨B, hB⟩ : ∃ A, t.data.toList = A := ⟨_, rfl⟩
  have hsz : (s ++ (⟨#[10]⟩ : ByteArray) ++ t).size ≤ 4001 := by
    rw [← size_data, data_appY, data_appY]; simp only [List.length_append, size_data]; show s.size + 1 + t.size ≤ _; omega
  have hcat : (s ++ (⟨#[10]⟩ : ByteArray) ++ t).data.toList = A ++ 10 :: B := by
    rw [data_appY, data_appY, hA, hB]
    simp
  have hAl : A.length = s.size := by rw [← hA]; exact hlen
  have hBl : B.length = t.size := by rw [← hB]; exact hlen2
  have HJ := Lib.hid (fun he => joined_law (a := A) (b := B) (by omega) (by omega) he)
  have HBAD := Lib.hid (parL_bad (s := A))
  have HAL := Lib.hid hAl
  have hpb := parP_bd (s := B) (by omega)
  have HPB := Lib.hid (show 0 ≤ parP B ∧ parP B ≤ 2000 by omega)
  have HLA : Hid ((parL A).length ≤ 2000 ∧ (parL B).length ≤ 2000) := Lib.hid (by have := parL_len A; have := parL_len B; omega)
  clear hlen hlen2 hAl hBl hpb
  go_wp2_with fail
  refine (parse_any s w1 HL1.out (by omega)).mono ?_
  rintro e w2 ⟨v1, he, ho, hb⟩
  rw [hA] at he ho
  have HB2 : Hid (Below w.heap.size w w2) := Lib.hid (HB1.out.trans (hb.mono HB1.out.size))
  have HIA := Lib.hid (ownWs_is ho)
  obtain ⟨a1, c1, rfl⟩ := ho.form
  obtain ⟨EA, hEA⟩ : ∃ E, parE A = E := ⟨_, rfl⟩
  obtain ⟨LA, hLA⟩ : ∃ L, parL A = L := ⟨_, rfl⟩
  rw [hEA] at HJ HBAD he
  rw [hLA] at HIA HBAD HJ HLA he
  subst he
  clear ho hb hA hEA hLA
  go_wp2_with fail
  refine (parse_any t w2 (HL0.out.below HB2.out h4) (by omega)).mono ?_
  rintro e w3 ⟨v2, he, ho, hb⟩
  rw [hB] at he ho
  have HB3 : Hid (Below w.heap.size w w3) := Lib.hid (HB2.out.trans (hb.mono HB2.out.size))
  have HIA3 := Lib.hid ((IsRecs.below wishK HIA.out hb (Nat.le_refl _)).mono wishK hb.size)
  have HIB := Lib.hid (ownWs_is ho)
  obtain ⟨a2, c2, rfl⟩ := ho.form
  obtain ⟨EB, hEB⟩ : ∃ E, parE B = E := ⟨_, rfl⟩
  obtain ⟨PB, hPB⟩ : ∃ E, parP B = E := ⟨_, rfl⟩
  obtain ⟨LB, hLB⟩ : ∃ L, parL B = L := ⟨_, rfl⟩
  rw [hEB, hPB, hLB] at HJ
  rw [hEB, hPB, hLB] at he
  rw [hPB] at HPB
  rw [hLB] at HIB HLA
  subst he
  clear ho hb hB hEB hLB hPB
  by_cases hE : EA = 0
  rotate_left
  · have hEb : (EA != 0) = true := by simpa using hE
    obtain rfl := HBAD.out hE
    clear hE hcat hsz
    go_wp2
    go_ret
    exact ⟨rfl, HB3.out⟩
  subst hE
  have HJ2 := Lib.hid (HJ.out rfl)
  go_wp2_with fail
  refine (parse_any (s ++ (⟨#[10]⟩ : ByteArray) ++ t) w3 (HL0.out.below HB3.out h4) (by omega)).mono ?_
  rintro e w4 ⟨v3, he, ho, hb⟩
  rw [hcat] at he ho
  have HB4 : Hid (Below w.heap.size w w4) := Lib.hid (HB3.out.trans (hb.mono HB3.out.size))
  have HIA4 := Lib.hid ((IsRecs.below wishK HIA3.out hb (Nat.le_refl _)).mono wishK hb.size)
  have HIB4 := Lib.hid ((IsRecs.below wishK HIB.out hb (Nat.le_refl _)).mono wishK hb.size)
  have HIC := Lib.hid (ownWs_is ho)
  obtain ⟨a3, c3, rfl⟩ := ho.form
  clear ho hb hcat hsz
  by_cases hEB : EB = 0
  · subst hEB
    obtain ⟨j1, j2, j3⟩ := HJ2.out.2 rfl
    rw [j1, j2] at he
    obtain ⟨LC, hLC⟩ : ∃ L, LA ++ LB = L := ⟨_, rfl⟩
    rw [j3, hLC] at HIC he
    have HLC := Lib.hid hLC
    subst he
    have hll := HLA.out
    clear j1 j2 j3 hLC
    obtain ⟨v5, w5, hrun1, ho5, hg5, hat5⟩ := run_append_recs wishK (by decide) wish_inf Tryd.underlying22 rfl (by decide) (by decide) (oty := 22) (C := w4.heap.size) (L := 1034834473200) (d0 := (default : WishD)) (v := .slice (some ⟨w4.heap.size, 0, none⟩) 0 0) (vx := .slice a1 LA.length c1) (xs := []) (ys := LA) (w := w4.alloc (.cells #[] 48)) (OwnRecs.made rfl (Nat.le_refl _)) (IsRecs.src wishK (by decide) (IsRecs.below wishK HIA4.out (box_below' w4 _) (Nat.le_refl _)) (Nat.le_refl _)) (by simp; omega) (by simp)
    obtain ⟨a5, n5, c5, rfl⟩ := ho5.form'
    have hb45 : Below w4.heap.size w4 w5 := (box_below' w4 _).grown hg5 (by simp) (fun q e => by have e2 : w4.heap.size = q := Option.some.inj e; omega)
    obtain ⟨v6, w6, hrun2, ho6, hg6, hat6⟩ := run_append_recs wishK (by decide) wish_inf Tryd.underlying22 rfl (by decide) (by decide) (oty := 22) (C := w4.heap.size) (L := 1034834473200) (d0 := (default : WishD)) (v := .slice a5 n5 c5) (vx := .slice a2 LB.length c2) (xs := [] ++ LA) (ys := LB) (w := w5) ho5 (IsRecs.src wishK (by decide) (IsRecs.below wishK HIB4.out hb45 (Nat.le_refl _)) (Nat.le_refl _)) (by simp; omega) hb45.size
    obtain ⟨a6, n6, c6, rfl⟩ := ho6.form'
    have hb46 : Below w4.heap.size w4 w6 := hb45.grown hg6 hb45.size (fun q e => (ho5.lt q e).1)
    have HZ := Lib.hid (OwnRecs.isRecs wishK ho6 hb46.size)
    have HR1 := Lib.hid hrun1
    have HR2 := Lib.hid hrun2
    have HCC := Lib.hid ((IsRecs.below wishK HIC.out hb46 (Nat.le_refl _)).mono wishK hb46.size)
    have HB6 : Hid (Below w.heap.size w w6) := Lib.hid (HB4.out.trans (hb46.mono HB4.out.size))
    clear ho5 hg5 hat5 hb45 ho6 hg6 hat6 hb46 hrun1 hrun2
    go_upto_region 12 with fail
    go_wp2_with first
      | (at_builtin; refine wpList_yes rfl (fun K hK => wp_of_append (s := .tmp 77) (x := .tmp 78) _ rfl rfl rfl HR1.out (hK _ _ ?_)))
      | (at_builtin; refine wpList_yes rfl (fun K hK => wp_of_append (s := .tmp 79) (x := .tmp 80) _ rfl rfl rfl HR2.out (hK _ _ ?_)))
    refine (rsame17_any w6.heap.size w6 (.slice a3 LC.length c3) (.slice a6 n6 c6) LC ([] ++ LA ++ LB) (Nat.le_refl _) HCC.out HZ.out).mono ?_
    rintro e w7 ⟨rfl, hb⟩
    rw [show sameWs LC ([] ++ LA ++ LB) = true from by unfold sameWs; rw [← HLC.out]; simp]
    have HB7 : Hid (Below w.heap.size w w7) := Lib.hid (HB6.out.trans (hb.mono HB6.out.size))
    clear hb
    go_wp2
    go_ret
    exact ⟨rfl, HB7.out⟩
  · obtain ⟨j1, j2, j3⟩ := HJ2.out.1 hEB
    rw [j1, j2, HAL.out] at he
    rw [j3] at HIC he
    subst he
    obtain ⟨bp1, bp2⟩ := HPB.out
    have hEb : (EB != 0) = true := by simpa using hEB
    clear j1 j2 j3 hEB
    go_wp2
    go_ret
    exact ⟨by simp, HB4.out⟩
end Go.Proofs.YtfnmidddgjlipaaDoor

/-
  SyntaxJoined holds, and its card: for all arguments the law returns true, and the arguments read as before.
  Conditions: what the row lists of package-level variables; the card ties that to the program's text.
-/
set_option linter.unusedVariables false
set_option linter.unusedSimpArgs false
namespace Go.Proofs.YtfnmidddgjlipaaDoor
open Go.ChangeShapes Go.WideShapes Go.ChangeAt Go.RowKit
open Go.ChangeMaps (open_string shut_string)

set_option maxRecDepth 100000 in
theorem syntaxJoined_lifted (os : Os) (started : os.Started) (H : Type) (enc : TypeId × Value → H) :
    ReturnsInHanded {} Tryd.checked os 5 .any (fun w args => (Rows.syntaxJoinedSpec.pre enc Tryd.prog Tryd.f5 Rows.syntaxJoinedRow.domain false w args ∧ laidMetH Tryd.prog laid5 w) ∧ sizedMet enc Tryd.prog Tryd.f5 (OpenSpec.ofChange Rows.syntaxJoinedSpec) false w args)
      (Rows.syntaxJoinedSpec.post enc Tryd.prog Tryd.f5 false true false false) := by
  refine returnsInHanded_of_change_and (C := Tryd.checked) (X := fun w _ => laidMetH Tryd.prog laid5 w) (fun _ _ _ hh h => h.of_heap hh) seat_own started (by kernel_rfl) Tryd.func5
    (ChangeSpec.witness_shaped (enc := enc) (C := Tryd.checked) (os := os) (X := fun w _ => laidMetH Tryd.prog laid5 w) false (World.doorLaid Tryd.prog 400 os) #[.string ByteArray.empty, .string ByteArray.empty] 8 rfl (World.shaped_of_RefB (by kernel_rfl) (by kernel_rfl)) (by kernel_rfl) (by kernel_rfl) (by kernel_rfl) (door_met os _)) ?_
  intro W base args ds gs before hval0 hW _ hsz0 hL0 _
  have hsz : (DataW.weightsEach Tryd.prog (Tryd.f5.params.toList ++ Rows.syntaxJoinedSpec.plain.varTypes Tryd.prog) (ds ++ gs)).all (· ≤ reachBytes) = true := hsz0
  have hval : ∀ (j : Nat) t v, Tryd.f5.params[j]? = some t → args[j]? = some v → Value.okWide Tryd.prog W .any base t v := hval0
  have HL := laid_of hL0
  have hW' := hW
  obtain ⟨p, q, hA0, hV, rfl, hfz, hnd⟩ := hW
  have hA : DataW.TrodAll enc Tryd.prog W 0 (fun _ => true) true Tryd.f5.params.toList args.toList ds p := hA0
  rw [Tryd.params5] at hA hval hsz
  obtain ⟨v0, vs0, d0, ds0, p0, q0, e0, rfl, rfl, h0, r0⟩ := trodAll_cons hA
  obtain ⟨v1, vs1, d1, ds1, p1, q1, rfl, rfl, rfl, h1, r1⟩ := trodAll_cons r0
  obtain ⟨rfl, rfl, rfl⟩ := trodAll_nil r1
  obtain rfl : args = #[v0, v1] := by cases args; simp_all
  obtain ⟨rfl, rfl⟩ := trodVars_none hV
  have hw : ∀ n ∈ DataW.weightsEach Tryd.prog [9, 9] [d0, d1], n ≤ reachBytes := by
    intro n hn
    have := List.all_eq_true.1 hsz n hn
    simpa using this
  have z_s : d0.weights Tryd.prog 9 = d0.weights Tryd.prog 9 := rfl
  obtain ⟨s, rfl, hd_s, hp_s, s_s⟩ := open_string Tryd.underlying9 (hval 0 9 v0 rfl rfl) h0
  have b_s : s.size ≤ 140737488351232 := str_bound (d := d0) hd_s (fun n hn => hw n (DataW.weights_mem_each (j := 0) (t := 9) rfl rfl n hn))
  have z_t : d1.weights Tryd.prog 9 = d1.weights Tryd.prog 9 := rfl
  obtain ⟨t, rfl, hd_t, hp_t, s_t⟩ := open_string Tryd.underlying9 (hval 1 9 v1 rfl rfl) h1
  have b_t : t.size ≤ 140737488351232 := str_bound (d := d1) hd_t (fun n hn => hw n (DataW.weights_mem_each (j := 1) (t := 9) rfl rfl n hn))
  have hlt := hW'.lt
  simp only [List.append_nil] at hW' hlt
  refine (syntaxJoined_any s t W HL b_s b_t).mono fun e W' ⟨he, hb⟩ => ?_
  subst he
  refine ⟨_, rfl, _, _, _, [], p0 ++ (p1 ++ []), [], hW', trodAll_mk1 (shut_bool Tryd.underlying4 _), ?_, rfl, hb.frame _, fun h => by cases h⟩
  exact trodAll_cons_mk (hb.trod seat_laidOut (by kernel_rfl) (of_decide_eq_true (by kernel_rfl)) h0 (fun x hx => hlt x (by simp [hx]))) 
    (trodAll_cons_mk (hb.trod seat_laidOut (by kernel_rfl) (of_decide_eq_true (by kernel_rfl)) h1 (fun x hx => hlt x (by simp [hx]))) trodAll_mk0)

theorem syntaxJoined_row : Rows.SyntaxJoinedSaid :=
  OpenClaim.holds_of_wide 5 Tryd.f5 rfl rfl rfl rfl rfl rfl rfl ⟨rfl, rfl, rfl, rfl, rfl⟩ rfl rfl rfl rfl rfl (by kernel_rfl) Tryd.func5 (by kernel_rfl)
    (of_decide_eq_true (by kernel_rfl)) (by unfold Func.isWrapper; first | (rw [if_pos (by decide +kernel)]; kernel_rfl) | (rw [if_neg (by decide +kernel)]; exact ⟨rfl, rfl⟩))
    (fun os started H enc _ => syntaxJoined_lifted os started H enc)

theorem syntaxJoined_holds : Rows.SyntaxJoinedCardSaid :=
  Claim7.holds_tied_plain_at .later [] [.data, .data, .data, .sentinel, .sentinel] true (true, "da7a53e2027b82d315f4c166b4b434db3249eefb495583a5a09f6f3e4ee5379c") true
    syntaxJoined_row (fun _ h => by cases h) (by kernel_rfl) (fun _ h => by cases h) syntaxJoined_row_tie rfl ⟨rfl, rfl⟩ (by kernel_rfl) rfl
    (fun f fn hf hfn => by
      obtain rfl : f = 5 := Option.some.inj ((show Tryd.prog.funcNamed Rows.syntaxJoinedRow.func = some 5 by kernel_rfl).symm.trans hf) |>.symm
      obtain rfl : fn = Tryd.f5 := (Option.some.inj (Tryd.func5.symm.trans hfn)).symm
      exact ⟨by kernel_rfl, fun j t ht => by
        rw [Tryd.params5] at ht
        have hm : t ∈ [9, 9] := by simpa using Array.mem_of_getElem? ht
        have hall : ([9, 9].all fun u => !Tryd.prog.wantsStandIn u) = true := by kernel_rfl
        exact (show Tryd.prog.wantsStandIn t = false by simpa using List.all_eq_true.1 hall t hm)⟩)
    (by kernel_rfl)

end Go.Proofs.YtfnmidddgjlipaaDoor
