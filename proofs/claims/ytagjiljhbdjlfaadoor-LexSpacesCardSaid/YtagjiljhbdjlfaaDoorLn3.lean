/-
  Layer 3: the walk of LexBack.
-/
import Derived.Test.YtagjiljhbdjlfaaDoorLx17
import Derived.Test.YtagjiljhbdjlfaaDoorLn1
import Derived.Test.YtagjiljhbdjlfaaDoorLn2
set_option linter.unusedVariables false
set_option linter.unusedSimpArgs false
namespace Go.Proofs.YtagjiljhbdjlfaaDoor
open Go.RowKit

theorem step_len {l : List UInt8} {k : Nat} {t : Tok} (h : stepL l = some (k, some t)) : (txt t).length = k := by
  match l, h with
  | c :: r, h =>
    simp only [stepL] at h
    split at h
    · cases h
    · split at h
      · cases h
      · split at h
        · split at h
          · cases h; simp [txt]
          · cases h
        · split at h
          · rename_i hd
            split at h
            · rename_i hn
              cases h
              have hall : ∀ x ∈ (c :: r).takeWhile isDig, isDig x = true := by
                intro x hx
                have key : ∀ (q : List UInt8), x ∈ q.takeWhile isDig → isDig x = true := by
                  intro q
                  induction q with
                  | nil => intro h; cases h
                  | cons a b ih =>
                    intro h
                    rw [List.takeWhile_cons] at h
                    split at h
                    · rcases List.mem_cons.1 h with rfl | h
                      · assumption
                      · exact ih h
                    · cases h
                exact key _ hx
              have hne : (c :: r).takeWhile isDig ≠ [] := by rw [List.takeWhile_cons, if_pos hd]; simp
              unfold numB at hn
              rw [Bool.and_eq_true] at hn
              have := (dec_eq_iff hall hne).2 hn.1
              show (if (2 : Int) == 2 then Go.Lib.itoa _ else []).length = _
              rw [if_pos (by rfl), itoa_nat (Int.natCast_nonneg _), Int.toNat_natCast, this]
            · cases h
          · split at h
            · cases h; simp [txt]
            · cases h
theorem lexA_sum (l : List UInt8) : ∀ at_, ((lexA l at_).1.map fun t => (txt t).length).sum ≤ l.length ∧ (lexA l at_).1.length ≤ l.length := by
  refine lex_induct (P := fun l => ∀ at_, ((lexA l at_).1.map fun t => (txt t).length).sum ≤ l.length ∧ (lexA l at_).1.length ≤ l.length) ?_ ?_ ?_ l
  · intro at_; simp [lexA_nil]
  · intro l hl hs at_; rw [lexA_bad hl hs]; simp
  · intro l k o hs ih at_
    have hp := step_pos hs
    have i := ih (at_ + k)
    rw [lexA_step hs]
    simp only [List.length_drop] at i
    cases o with
    | none => exact ⟨by simp [addTok]; omega, by simp [addTok]; omega⟩
    | some t =>
      have hk := step_len hs
      have hk2 : (txt { t with pos := (at_ : Int) }).length = k := hk
      exact ⟨by simp [addTok, hk2]; omega, by simp [addTok]; omega⟩
theorem joinW_sum : ∀ (ts : List Tok), (joinW (ts.map txt)).length ≤ (ts.map fun t => (txt t).length).sum + ts.length
  | [] => by simp [joinW]
  | [x] => by simp [joinW]
  | x :: y :: r => by
    have ih := joinW_sum (y :: r)
    simp only [List.map_cons, joinW, List.length_append, List.length_cons, List.sum_cons] at ih ⊢
    omega
theorem txt_len2 {t : Tok} (hv : validB t = true) : (txt t).length ≤ t.text.length + 13 := by
  unfold txt
  by_cases hk : t.kind = 2
  · obtain ⟨h1, h2, h3⟩ := valid_num hv hk
    rw [hk, itoa_nat h2]
    have := dec_len 12 t.n.toNat (by omega)
    simp
    omega
  · have : (t.kind == 2) = false := by simpa using hk
    rw [this]
    simp
theorem sum_txt : ∀ (ts : List Tok), (∀ t ∈ ts, validB t = true) → (ts.map fun t => (txt t).length).sum ≤ (ts.map fun t => t.text.length).sum + 13 * ts.length
  | [], _ => by simp
  | t :: r, h => by
    have ih := sum_txt r (fun x hx => h x (by simp [hx]))
    have := txt_len2 (h t (by simp))
    simp only [List.map_cons, List.sum_cons, List.length_cons]
    omega
theorem sumLen_all (ts : List Tok) : sumLen ts ts.length = (ts.map fun t => t.text.length).sum := by unfold sumLen; rw [List.take_length]
theorem len_le_sum : ∀ (ts : List Tok) (t : Tok), t ∈ ts → t.text.length ≤ (ts.map fun t => t.text.length).sum
  | u :: r, t, h => by
    simp only [List.map_cons, List.sum_cons]
    rcases List.mem_cons.1 h with rfl | h
    · omega
    · have := len_le_sum r t h; omega
theorem textE_ok {ts : List Tok} (h : textE ts = 0) : (∀ t ∈ ts, validB t = true) ∧ textL ts = joinW (ts.map txt) := by
  unfold textE at h
  split at h
  · rename_i hv
    exact ⟨List.all_eq_true.1 hv, by unfold textL; rw [if_pos hv]⟩
  · cases h
theorem textE_of {ts : List Tok} (h : ∀ t ∈ ts, validB t = true) : textE ts = 0 ∧ textL ts = joinW (ts.map txt) := by
  have : ts.all validB = true := List.all_eq_true.2 h
  unfold textE textL
  rw [if_pos this, if_pos this]
  exact ⟨rfl, rfl⟩
theorem textE_no {ts : List Tok} (h : textE ts ≠ 0) : textE ts = 30 := by
  unfold textE at *
  split at h
  · exact absurd rfl h
  · rename_i hv; rw [if_neg hv]
/-- what a text of tokens is read as -/
theorem lex_of_text {ts : List Tok} (hv : ∀ t ∈ ts, validB t = true) (hl : (joinW (ts.map txt)).length ≤ 65536) : lexE (joinW (ts.map txt)) = 0 ∧ lexP (joinW (ts.map txt)) = 0 ∧ sameT ts (lexT (joinW (ts.map txt))) = true := by
  obtain ⟨h1, h2⟩ := lexA_joinW ts 0 hv
  obtain ⟨g1, g2, g3⟩ := lex_none h2 hl
  exact ⟨g1, g2, by rw [g3, sameT_iff, h1]⟩
theorem few_law {ts : List Tok} (h : fewB ts = true) (he : textE ts = 0) : lexE (textL ts) = 0 ∧ lexP (textL ts) = 0 ∧ sameT ts (lexT (textL ts)) = true ∧ (textL ts).length ≤ 65536 := by
  unfold fewB at h
  simp only [Bool.and_eq_true, decide_eq_true_eq] at h
  obtain ⟨hv, ht⟩ := textE_ok he
  have h1 := joinW_sum ts
  have h2 := sum_txt ts hv
  rw [← sumLen_all] at h2
  have hl : (joinW (ts.map txt)).length ≤ 65536 := by omega
  rw [ht]
  obtain ⟨g1, g2, g3⟩ := lex_of_text hv hl
  exact ⟨g1, g2, g3, hl⟩
theorem few_bd {ts : List Tok} (h : fewB ts = true) : ts.length ≤ 100000 ∧ ∀ t ∈ ts, t.text.length ≤ 100000 := by
  unfold fewB at h
  simp only [Bool.and_eq_true, decide_eq_true_eq] at h
  refine ⟨by omega, fun t ht => ?_⟩
  have := len_le_sum ts t ht
  rw [← sumLen_all] at this
  omega
theorem back_law {l : List UInt8} (hl : l.length ≤ 3000) : (lexT l).length ≤ 3000 ∧ (∀ t ∈ lexT l, t.text.length ≤ 100000) ∧ textE (lexT l) = 0 ∧ lexE (textL (lexT l)) = 0 ∧ sameT (lexT l) (lexT (textL (lexT l))) = true ∧ (textL (lexT l)).length ≤ 65536 := by
  have hv := lexT_valid (l := l)
  have hsum : ((lexT l).map fun t => (txt t).length).sum ≤ 3000 ∧ (lexT l).length ≤ 3000 := by
    unfold lexT
    rw [if_neg (by omega)]
    split
    · have := lexA_sum l 0; omega
    · simp
  obtain ⟨e1, e2⟩ := textE_of hv
  have h1 := joinW_sum (lexT l)
  obtain ⟨g1, g2, g3⟩ := lex_of_text hv (by omega)
  rw [e2]
  refine ⟨hsum.2, fun t ht => ?_, e1, g1, g3, by omega⟩
  rcases valid_kind (hv t ht) with hk | hk | hk
  · have := (valid_name (hv t ht) hk).1
    match hx : t.text, this with
    | c :: r, this => simp only [nameB, Bool.and_eq_true, decide_eq_true_eq] at this; omega
  · rw [(valid_num (hv t ht) hk).1]; simp
  · obtain ⟨c, hc, _⟩ := valid_sgn (hv t ht) hk
    rw [hc]; simp

theorem lexT_err {l : List UInt8} (h : lexE l ≠ 0) : lexT l = [] := by
  unfold lexE at h
  unfold lexT
  split
  · rfl
  · rename_i h1
    rw [if_neg h1] at h
    split
    · rename_i h2; rw [if_pos h2] at h; exact absurd rfl h
    · rfl

set_option maxHeartbeats 4000000 in
set_option maxRecDepth 100000 in
theorem lexBack_any (B : Nat) (ts : List Tok) (v : Value) (s : ByteArray) (w : World) (hL : LaidW w) (hB : B ≤ w.heap.size) (hv : IsToks B w v ts) (hs : s.size ≤ 140737488351232) :
    Calls Tryd.prog 5 #[v, .string s] w fun e w' => e = .returned (.bool true) ∧ Below w.heap.size w w' := by
  have HL0 := Lib.hid hL
  have h4 := hL.size
  have HV := Lib.hid hv
  have hlen := size_data s
  obtain ⟨a, c, rfl, hc1, hc2, hc3⟩ := hv.form
  clear hL hv
  go_enter Tryd.func5, Tryd.ntmps5
  go_wp2_with fail
  refine (sane_any w HL0.out).mono ?_
  rintro e w1 ⟨rfl, hb⟩
  have HB1 := Lib.hid hb
  have HV1 := Lib.hid (HV.out.below hb hB)
  have HL1 := Lib.hid (HL0.out.below hb h4)
  clear hb
  go_wp2_with fail
  refine (few_any B w1 _ ts HV1.out).mono ?_
  rintro e w2 ⟨rfl, rfl⟩
  cases hf : fewB ts with
  | false =>
    clear hf
    go_wp2
    go_ret
    exact ⟨rfl, HB1.out⟩
  | true =>
    by_cases hbig : 3000 < s.size
    · clear hlen hf
      go_wp2
      go_ret
      exact ⟨rfl, HB1.out⟩
    · have HFB := Lib.hid (few_bd hf)
      have HFL := Lib.hid (few_law hf)
      have HBL := Lib.hid (back_law (l := s.data.toList) (by omega))
      have hbd := HB1.out.size
      clear hf hlen
      go_wp2_with fail
      refine (text_any B w2 _ ts HL1.out (by omega) HV1.out HFB.out.1 HFB.out.2).mono ?_
      rintro e w3 ⟨rfl, hb⟩
      have HB3 : Hid (Below w.heap.size w w3) := Lib.hid (HB1.out.trans (hb.mono HB1.out.size))
      have HV3 := Lib.hid (HV.out.below HB3.out hB)
      have HL3 := Lib.hid (HL0.out.below HB3.out h4)
      clear hb
      by_cases hte : textE ts = 0
      · obtain ⟨m1, m2, m3, m4⟩ := HFL.out hte
        have HM3 := Lib.hid m3
        have HM4 := Lib.hid (len_mk (textL ts))
        rw [hte]
        clear hte m3
        go_wp2_with fail
        refine (lex_any ⟨(textL ts).toArray⟩ w3 HL3.out (by rw [HM4.out]; omega)).mono ?_
        rintro e w4 ⟨v4, rfl, ho, hb⟩
        have HB4 : Hid (Below w.heap.size w w4) := Lib.hid (HB3.out.trans (hb.mono HB3.out.size))
        have HV4 := Lib.hid (HV.out.below HB4.out hB)
        have hz4 := HB4.out.size
        rw [show lexE (⟨(textL ts).toArray⟩ : ByteArray).data.toList = 0 from m1, show lexP (⟨(textL ts).toArray⟩ : ByteArray).data.toList = 0 from m2]
        have HO4 : Hid (Tk w4 v4 (lexT (textL ts))) := Lib.hid (Tk.of ho)
        obtain ⟨a4, c4, rfl⟩ := ho.form
        clear hb ho m1 m2
        go_wp2_with fail
        refine (same_any w4.heap.size w4 _ _ _ _ (Nat.le_refl _) (HV4.out.mono (by omega)) HO4.out).mono ?_
        rintro e w5 ⟨rfl, hb⟩
        rw [HM3.out]
        have HB5 : Hid (Below w.heap.size w w5) := Lib.hid (HB4.out.trans (hb.mono HB4.out.size))
        have HL5 := Lib.hid (HL0.out.below HB5.out h4)
        clear hb
        go_wp2_with fail
        refine (lex_any s w5 HL5.out (by omega)).mono ?_
        rintro e x1 ⟨v1, rfl, ho, hb⟩
        have HC1 : Hid (Below w.heap.size w x1) := Lib.hid (HB5.out.trans (hb.mono HB5.out.size))
        have HM1 := Lib.hid (HL0.out.below HC1.out h4)
        obtain ⟨a1, c1, rfl⟩ := ho.form
        have HT1 := Lib.hid (Tk.of ho)
        clear ho hb
        by_cases hE : lexE s.data.toList = 0
        · rw [hE]
          clear hE
          obtain ⟨n1, n2, n3, n4, n5, n6⟩ := HBL.out
          have HN2 := Lib.hid n2
          have HN5 := Lib.hid n5
          have HN6 := Lib.hid (len_mk (textL (lexT s.data.toList)))
          clear n2 n5
          go_wp2_with fail
          refine (text_any x1.heap.size x1 _ (lexT s.data.toList) HM1.out (Nat.le_refl _) HT1.out (by omega) HN2.out).mono ?_
          rintro e x2 ⟨rfl, hb⟩
          rw [n3]
          have HC2 : Hid (Below w.heap.size w x2) := Lib.hid (HC1.out.trans (hb.mono HC1.out.size))
          have HT2 := Lib.hid (HT1.out.ext hb)
          have HM2 := Lib.hid (HL0.out.below HC2.out h4)
          clear hb
          go_wp2_with fail
          refine (lex_any ⟨(textL (lexT s.data.toList)).toArray⟩ x2 HM2.out (by rw [HN6.out]; omega)).mono ?_
          rintro e x3 ⟨v3, rfl, ho, hb⟩
          have HC3 : Hid (Below w.heap.size w x3) := Lib.hid (HC2.out.trans (hb.mono HC2.out.size))
          have HT3 := Lib.hid (HT2.out.ext hb)
          rw [show lexE (⟨(textL (lexT s.data.toList)).toArray⟩ : ByteArray).data.toList = 0 from n4]
          have HO3 : Hid (Tk x3 v3 (lexT (textL (lexT s.data.toList)))) := Lib.hid (Tk.of ho)
          obtain ⟨a3, c3, rfl⟩ := ho.form
          clear hb ho n3 n4
          go_wp2_with fail
          refine (same_any x3.heap.size x3 _ _ _ _ (Nat.le_refl _) HT3.out HO3.out).mono ?_
          rintro e x4 ⟨rfl, hb⟩
          rw [HN5.out]
          have HC4 : Hid (Below w.heap.size w x4) := Lib.hid (HC3.out.trans (hb.mono HC3.out.size))
          clear hb
          go_wp2
          go_ret
          exact ⟨rfl, HC4.out⟩
        · have hE2 : (lexE s.data.toList != 0) = true := by simpa using hE
          have hlen0 : (((lexT s.data.toList).length : Int) == 0) = true := by rw [lexT_err hE]; rfl
          have HTE := Lib.hid (lexT_err hE)
          clear hE
          go_wp2
          go_ret
          exact ⟨by rw [HTE.out]; rfl, HC1.out⟩
      · have hte2 := textE_no hte
        rw [hte2]
        clear hte hte2
        go_wp2_with fail
        refine (lex_any s w3 HL3.out (by omega)).mono ?_
        rintro e x1 ⟨v1, rfl, ho, hb⟩
        have HC1 : Hid (Below w.heap.size w x1) := Lib.hid (HB3.out.trans (hb.mono HB3.out.size))
        have HM1 := Lib.hid (HL0.out.below HC1.out h4)
        obtain ⟨a1, c1, rfl⟩ := ho.form
        have HT1 := Lib.hid (Tk.of ho)
        clear ho hb
        by_cases hE : lexE s.data.toList = 0
        · rw [hE]
          clear hE
          obtain ⟨n1, n2, n3, n4, n5, n6⟩ := HBL.out
          have HN2 := Lib.hid n2
          have HN5 := Lib.hid n5
          have HN6 := Lib.hid (len_mk (textL (lexT s.data.toList)))
          clear n2 n5
          go_wp2_with fail
          refine (text_any x1.heap.size x1 _ (lexT s.data.toList) HM1.out (Nat.le_refl _) HT1.out (by omega) HN2.out).mono ?_
          rintro e x2 ⟨rfl, hb⟩
          rw [n3]
          have HC2 : Hid (Below w.heap.size w x2) := Lib.hid (HC1.out.trans (hb.mono HC1.out.size))
          have HT2 := Lib.hid (HT1.out.ext hb)
          have HM2 := Lib.hid (HL0.out.below HC2.out h4)
          clear hb
          go_wp2_with fail
          refine (lex_any ⟨(textL (lexT s.data.toList)).toArray⟩ x2 HM2.out (by rw [HN6.out]; omega)).mono ?_
          rintro e x3 ⟨v3, rfl, ho, hb⟩
          have HC3 : Hid (Below w.heap.size w x3) := Lib.hid (HC2.out.trans (hb.mono HC2.out.size))
          have HT3 := Lib.hid (HT2.out.ext hb)
          rw [show lexE (⟨(textL (lexT s.data.toList)).toArray⟩ : ByteArray).data.toList = 0 from n4]
          have HO3 : Hid (Tk x3 v3 (lexT (textL (lexT s.data.toList)))) := Lib.hid (Tk.of ho)
          obtain ⟨a3, c3, rfl⟩ := ho.form
          clear hb ho n3 n4
          go_wp2_with fail
          refine (same_any x3.heap.size x3 _ _ _ _ (Nat.le_refl _) HT3.out HO3.out).mono ?_
          rintro e x4 ⟨rfl, hb⟩
          rw [HN5.out]
          have HC4 : Hid (Below w.heap.size w x4) := Lib.hid (HC3.out.trans (hb.mono HC3.out.size))
          clear hb
          go_wp2
          go_ret
          exact ⟨rfl, HC4.out⟩
        · have hE2 : (lexE s.data.toList != 0) = true := by simpa using hE
          have hlen0 : (((lexT s.data.toList).length : Int) == 0) = true := by rw [lexT_err hE]; rfl
          have HTE := Lib.hid (lexT_err hE)
          clear hE
          go_wp2
          go_ret
          exact ⟨by rw [HTE.out]; rfl, HC1.out⟩
end Go.Proofs.YtagjiljhbdjlfaaDoor
