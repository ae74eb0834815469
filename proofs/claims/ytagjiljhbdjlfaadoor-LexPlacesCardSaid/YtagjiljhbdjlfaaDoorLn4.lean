/-
  Layer 3: the walk of LexJoined.
-/
import Derived.Test.YtagjiljhbdjlfaaDoorLn1
import Derived.Test.YtagjiljhbdjlfaaDoorLn2
set_option linter.unusedVariables false
set_option linter.unusedSimpArgs false
namespace Go.Proofs.YtagjiljhbdjlfaaDoor
open Go.RowKit

theorem IsToks.src {B : Nat} {w : World} {v : Value} {ts : List Tok} (h : IsToks B w v ts) : Src w 4 v ts.length (flatT ts) := by
  obtain ⟨b, off, cap, ⟨ad, rfl, hcap, hmax, ha⟩, hly, hz, hc⟩ := h
  refine ⟨ad, cap, rfl, flatT_len ts, fun j u hj => ?_, flatT_one ts⟩
  have hlt : j < ts.length * 4 := by
    have := (List.getElem?_eq_some_iff.1 hj).1
    rwa [flatT_len] at this
  obtain rfl : ad = some ⟨b, off, none⟩ := by rcases ha with ha | ha; exact ha; omega
  have e : (⟨b, off, none⟩ : Addr).add j = ⟨b, off + j, none⟩ := by unfold Addr.add; split <;> simp_all
  refine ⟨_, rfl, ?_⟩
  rw [e]
  have hq : j / 4 < ts.length := by omega
  have hg := flatT_get ts (j / 4) hq (j % 4) (by omega)
  rw [show j / 4 * 4 + j % 4 = j by omega, hj] at hg
  obtain ⟨g0, g1, g2, g3⟩ := hc (j / 4) hq
  have h4 : j % 4 = 0 ∨ j % 4 = 1 ∨ j % 4 = 2 ∨ j % 4 = 3 := by omega
  rcases h4 with h | h | h | h <;> rw [h] at hg <;> simp only [tokC, List.getElem?_cons_zero, List.getElem?_cons_succ, Option.some.injEq] at hg <;> subst hg
  · rw [show off + j = off + j / 4 * 4 by omega]; exact g0.2
  · rw [show off + j = off + j / 4 * 4 + 1 by omega]; exact g1.2
  · rw [show off + j = off + j / 4 * 4 + 2 by omega]; exact g2.2
  · rw [show off + j = off + j / 4 * 4 + 3 by omega]; exact g3.2

theorem lexA_pos (l : List UInt8) : ∀ at_, ∀ t ∈ (lexA l at_).1, (0 : Int) ≤ t.pos ∧ t.pos ≤ (at_ + l.length : Nat) := by
  refine lex_induct (P := fun l => ∀ at_, ∀ t ∈ (lexA l at_).1, (0 : Int) ≤ t.pos ∧ t.pos ≤ (at_ + l.length : Nat)) ?_ ?_ ?_ l
  · intro at_ t h; rw [lexA_nil] at h; cases h
  · intro l hl hs at_ t h; rw [lexA_bad hl hs] at h; cases h
  · intro l k o hs ih at_ t h
    have hp := step_pos hs
    rw [lexA_step hs] at h
    have i := ih (at_ + k)
    simp only [List.length_drop] at i
    cases o with
    | none => have := i t h; omega
    | some u =>
      simp only [addTok, List.mem_cons] at h
      rcases h with rfl | h
      · show (0 : Int) ≤ (at_ : Int) ∧ (at_ : Int) ≤ _
        omega
      · have := i t h; omega
theorem lexT_pos {l : List UInt8} : ∀ t ∈ lexT l, (0 : Int) ≤ t.pos ∧ t.pos ≤ 65536 := by
  intro t h
  unfold lexT at h
  split at h
  · cases h
  · split at h
    · have := lexA_pos l 0 t h; omega
    · cases h
theorem join_law {a b : List UInt8} (h : a.length + b.length ≤ 3000) :
    (∀ i, (lexA a 0).2 = some i → lexE (a ++ [10] ++ b) = 30 ∧ lexP (a ++ [10] ++ b) = i ∧ lexT (a ++ [10] ++ b) = []) ∧
    (∀ i, (lexA a 0).2 = none → (lexA b 0).2 = some i → lexE (a ++ [10] ++ b) = 30 ∧ lexP (a ++ [10] ++ b) = (i : Int) + (a.length : Int) + 1 ∧ lexT (a ++ [10] ++ b) = []) ∧
    ((lexA a 0).2 = none → (lexA b 0).2 = none → lexE (a ++ [10] ++ b) = 0 ∧ lexP (a ++ [10] ++ b) = 0 ∧ lexT (a ++ [10] ++ b) = lexT a ++ (lexT b).map (shiftT (a.length + 1))) := by
  have e : a ++ [10] ++ b = a ++ 10 :: b := by simp
  have hl : (a ++ 10 :: b).length ≤ 65536 := by simp; omega
  have hj := lexA_join b a 0
  have hs := lexA_shift (a.length + 1) b 0
  rw [show 0 + a.length + 1 = 0 + (a.length + 1) by omega, hs] at hj
  rw [e]
  refine ⟨fun i h1 => ?_, fun i h1 h2 => ?_, fun h1 h2 => ?_⟩
  · rw [h1] at hj
    exact lex_some (by rw [hj]) hl
  · rw [h1, h2] at hj
    obtain ⟨g1, g2, g3⟩ := lex_some (l := a ++ 10 :: b) (i := i + (a.length + 1)) (by rw [hj]; rfl) hl
    exact ⟨g1, by rw [g2]; omega, g3⟩
  · rw [h1, h2] at hj
    obtain ⟨g1, g2, g3⟩ := lex_none (l := a ++ 10 :: b) (by rw [hj]; rfl) hl
    obtain ⟨_, _, k1⟩ := lex_none h1 (by omega)
    obtain ⟨_, _, k2⟩ := lex_none h2 (by omega)
    exact ⟨g1, g2, by rw [g3, k1, k2, hj]⟩
theorem lexA_cnt (l : List UInt8) : ∀ at_, (lexA l at_).1.length ≤ l.length := by
  refine lex_induct (P := fun l => ∀ at_, (lexA l at_).1.length ≤ l.length) ?_ ?_ ?_ l
  · intro at_; simp [lexA_nil]
  · intro l hl hs at_; rw [lexA_bad hl hs]; simp
  · intro l k o hs ih at_
    have hp := step_pos hs
    have i := ih (at_ + k)
    rw [lexA_step hs]
    simp only [List.length_drop] at i
    cases o with
    | none => simp [addTok]; omega
    | some t => simp [addTok]; omega
theorem back_len {l : List UInt8} (h : l.length ≤ 3000) : (lexT l).length ≤ l.length := by
  unfold lexT
  split
  · simp
  · split
    · exact lexA_cnt l 0
    · simp
theorem take_shift {T : List Tok} {k d : Nat} (h : k < T.length) : (T.take (k + 1)).map (shiftT d) = (T.take k).map (shiftT d) ++ [shiftT d (tokAt T k)] := by
  rw [List.take_succ_eq_append_getElem h, List.map_append, tokAt_get h]
  rfl

set_option maxHeartbeats 4000000 in
set_option maxRecDepth 100000 in
theorem lexJoined_any (s t : ByteArray) (w : World) (hL : LaidW w) (hs : s.size ≤ 140737488351232) (ht : t.size ≤ 140737488351232) :
    Calls Tryd.prog 7 #[.string s, .string t] w fun e w' => e = .returned (.bool true) ∧ Below w.heap.size w w' := by
  have HL0 := Lib.hid hL
  have h4 := hL.size
  have hlen := size_data s
  have hlen2 := size_data t
  clear hL
  go_enter Tryd.func7, Tryd.ntmps7
  go_wp2_with fail
  refine (sane_any w HL0.out).mono ?_
  rintro e w1 ⟨rfl, hb⟩
  have HB1 := Lib.hid hb
  have HL1 := Lib.hid (HL0.out.below hb h4)
  clear hb
  by_cases hbig : 3000 < s.size + t.size
  · have hbig2 : (3000 : Int) < (s.size : Int) + (t.size : Int) := by omega
    clear hlen hlen2
    go_wp2
    go_ret
    exact ⟨rfl, HB1.out⟩
  · have hsm : (s.size : Int) + (t.size : Int) ≤ 3000 := by omega
    have hs2 : s.size ≤ 3000 := by omega
    have ht2 : t.size ≤ 3000 := by omega
    have hsz : (s ++ (⟨#[10]⟩ : ByteArray) ++ t).size ≤ 3001 := by
      rw [← size_data, data_app, data_app]; simp only [List.length_append, size_data]; show s.size + 1 + t.size ≤ _; omega
    have HJ : Hid _ := Lib.hid (join_law (a := s.data.toList) (b := t.data.toList) (by omega))
    have hcat : (s ++ (⟨#[10]⟩ : ByteArray) ++ t).data.toList = s.data.toList ++ [10] ++ t.data.toList := by rw [data_app, data_app]
    go_wp2_with fail
    refine (lex_any s w1 HL1.out (by omega)).mono ?_
    rintro e w2 ⟨v1, rfl, ho, hb⟩
    have HB2 : Hid (Below w.heap.size w w2) := Lib.hid (HB1.out.trans (hb.mono HB1.out.size))
    have HL2 := Lib.hid (HL0.out.below HB2.out h4)
    have HTA := Lib.hid (Tk.of ho)
    obtain ⟨a1, c1, rfl⟩ := ho.form
    clear hb ho
    go_wp2_with fail
    refine (lex_any t w2 HL2.out (by omega)).mono ?_
    rintro e w3 ⟨v2, rfl, ho, hb⟩
    have HB3 : Hid (Below w.heap.size w w3) := Lib.hid (HB2.out.trans (hb.mono HB2.out.size))
    have HL3 := Lib.hid (HL0.out.below HB3.out h4)
    have HTA3 := Lib.hid (HTA.out.ext hb)
    have HTB := Lib.hid (Tk.of ho)
    obtain ⟨a2, c2, rfl⟩ := ho.form
    clear hb ho
    go_wp2_with fail
    refine (lex_any (s ++ (⟨#[10]⟩ : ByteArray) ++ t) w3 HL3.out (by omega)).mono ?_
    rintro e w4 ⟨v3, rfl, ho, hb⟩
    have HB4 : Hid (Below w.heap.size w w4) := Lib.hid (HB3.out.trans (hb.mono HB3.out.size))
    have HA4 := Lib.hid (HTA3.out.ext hb)
    have HT4 := Lib.hid (HTB.out.ext hb)
    rw [hcat] at ho ⊢
    clear hb hcat
    cases hx : (lexA s.data.toList 0).2 with
    | some i =>
      obtain ⟨e1, e2, _⟩ := lex_some hx (by omega)
      obtain ⟨g1, g2, g3⟩ := HJ.out.1 i hx
      have hi := (lexA_err _ 0 i hx).2.1
      rw [g3] at ho
      obtain ⟨a3, c3, rfl⟩ := ho.form
      have b1 : (0 : Int) ≤ (i : Int) := by omega
      have b2 : (i : Int) ≤ 3000 := by omega
      rw [e1, e2, g1, g2]
      clear hx e1 e2 g1 g2 g3 hi ho hlen hlen2 hsz
      go_wp2
      go_ret
      exact ⟨by simp, HB4.out⟩
    | none =>
      obtain ⟨e1, e2, _⟩ := lex_none hx (by omega)
      cases hy : (lexA t.data.toList 0).2 with
      | some i =>
        obtain ⟨e3, e4, _⟩ := lex_some hy (by omega)
        obtain ⟨g1, g2, g3⟩ := HJ.out.2.1 i hx hy
        have hi := (lexA_err _ 0 i hy).2.1
        rw [g3] at ho
        obtain ⟨a3, c3, rfl⟩ := ho.form
        have b1 : (0 : Int) ≤ (i : Int) := by omega
        have b2 : (i : Int) ≤ 3000 := by omega
        rw [hlen] at g2
        rw [e1, e2, e3, e4, g1, g2]
        clear hx hy e1 e2 e3 e4 g1 g2 g3 hi ho hlen hlen2 hsz
        go_wp2
        go_ret
        exact ⟨by simp, HB4.out⟩
      | none =>
        obtain ⟨e3, e4, _⟩ := lex_none hy (by omega)
        obtain ⟨g1, g2, g3⟩ := HJ.out.2.2 hx hy
        rw [hlen] at g3
        rw [g3] at ho
        have HTC := Lib.hid (Tk.of ho)
        obtain ⟨a3, n3, c3, rfl⟩ := ho.form'
        rw [e1, e2, e3, e4, g1, g2]
        have hnA := back_len (l := s.data.toList) (by omega)
        have hnB := back_len (l := t.data.toList) (by omega)
        rw [hlen] at hnA
        rw [hlen2] at hnB
        have HP : Hid (∀ u ∈ lexT t.data.toList, (0 : Int) ≤ u.pos ∧ u.pos ≤ 65536) := Lib.hid lexT_pos
        obtain ⟨TA, hTA⟩ : ∃ T, lexT s.data.toList = T := ⟨_, rfl⟩
        obtain ⟨TB, hTB⟩ : ∃ T, lexT t.data.toList = T := ⟨_, rfl⟩
        rw [hTA] at hnA HA4 HTC
        rw [hTB] at hnB HT4 HTC HP
        rw [hTA, hTB]
        clear hx hy e1 e2 e3 e4 g1 g2 g3 ho hlen hlen2 hsz hTA hTB HJ HTA HTA3 HTB
        obtain ⟨d, hd⟩ : ∃ d, s.size + 1 = d := ⟨_, rfl⟩
        rw [hd] at HTC
        have HOA : Hid (∀ u ∈ TA, okT u) := Lib.hid (by obtain ⟨_, _, _, _, _, h, _⟩ := HA4.out; exact h)
        have HA5 := Lib.hid (HA4.out.ext (box_below' w4 (.cells #[] 35)))
        go_wp2_with (at_builtin; (refine append_toksA rfl (.tmp 82) (.tmp 83) rfl (C := w4.heap.size) (v := .slice (some ⟨w4.heap.size, 0, none⟩) 0 0) (vx := .slice a1 TA.length c1) (xs := []) (ys := TA) rfl (OwnToks.made rfl (Nat.le_refl _)) rfl HA5.out.src HOA.out (by simp; omega) (by simp) ?_; intro v5 w5 ho5 hg5 hat5; have HO5 := Lib.hid ho5; have HG5 := Lib.hid hg5; clear ho5 hg5 hat5))
        go_loopw [14, 87] (fun v i wr => ∃ k : Nat, k ≤ TB.length ∧ i = .int .i64 k ∧ OwnToks w4.heap.size wr v (TA ++ (TB.take k).map (shiftT d)) ∧ Below w4.heap.size w4 wr) (fun v i _ => TB.length - (intOf i).toNat)
        case atStart => exact ⟨0, by omega, rfl, by simpa using HO5.out, ((Below.refl _ _).alloc (Nat.le_refl _) _).grown HG5.out (by simp) (fun k hk => by simp [Value.ownBlock] at hk; omega)⟩
        case round =>
          obtain ⟨k, hk, rfl, ho, hbr⟩ := hrel
          have HO := Lib.hid ho
          have HBR := Lib.hid hbr
          have HBW : Hid (Below w.heap.size w wr) := Lib.hid (HB4.out.trans (hbr.mono HB4.out.size))
          have hzr := hbr.size
          obtain ⟨a6, n6, c6, rfl⟩ := ho.form'
          clear ho hbr
          by_cases hlt : k < TB.length
          · obtain ⟨b, off, rfl, bb, g0, g1, g2, g3⟩ := (HT4.out.below HBR.out (Nat.le_refl _)).cells hlt
            have HOK := Lib.hid (HT4.out.ok hlt)
            have HPK := HP.out (tokAt TB k) (by rw [tokAt_get hlt]; exact List.getElem_mem hlt)
            have hbl : ¬ b = wr.heap.size := by omega
            obtain ⟨p1, p2⟩ := HPK
            have hds : (d : Int) = (s.size : Int) + 1 := by omega
            have HOKS : Hid (∀ u ∈ [shiftT d (tokAt TB k)], okT u) := Lib.hid (by
              intro u hu
              obtain rfl := List.mem_singleton.1 hu
              obtain ⟨a1, a2, a3, a4⟩ := HOK.out
              exact ⟨a1, a2, a3, by unfold I64 shiftT; simp only; omega⟩)
            go_upto_region 17 with fail
            rw [show (tokAt TB k).pos + ((s.size : Int) + 1) = (shiftT d (tokAt TB k)).pos by unfold shiftT; simp only; omega]
            rw [show (Value.string ⟨(tokAt TB k).text.toArray⟩) = strV (shiftT d (tokAt TB k)).text from rfl, show (tokAt TB k).kind = (shiftT d (tokAt TB k)).kind from rfl, show (tokAt TB k).n = (shiftT d (tokAt TB k)).n from rfl]
            have HTS := Lib.hid (take_shift (d := d) hlt)
            obtain ⟨tk, htk⟩ : ∃ tk, shiftT d (tokAt TB k) = tk := ⟨_, rfl⟩
            rw [htk] at HOKS HTS ⊢
            have HKW := Lib.hid (CellsN.new wr #[.int .i64 tk.kind, strV tk.text, .int .i64 tk.n, .int .i64 tk.pos] 35)
            have HOW := Lib.hid (HO.out.alloc (.cells #[.int .i64 tk.kind, strV tk.text, .int .i64 tk.n, .int .i64 tk.pos] 35))
            have HBX : Hid (Below w4.heap.size w4 (wr.alloc (.cells #[.int .i64 tk.kind, strV tk.text, .int .i64 tk.n, .int .i64 tk.pos] 35))) := Lib.hid (HBR.out.alloc hzr _)
            obtain ⟨W, hW⟩ : ∃ W, wr.alloc (.cells #[.int .i64 tk.kind, strV tk.text, .int .i64 tk.n, .int .i64 tk.pos] 35) = W := ⟨_, rfl⟩
            have hzW := HBX.out.size
            rw [hW] at HKW HOW HBX hzW ⊢
            clear hW g0 g1 g2 g3 htk
            have HRO := Lib.hid HOW.out.lt
            have m0 := HKW.out.cell 0
            have m1 := HKW.out.cell 1
            have m2 := HKW.out.cell 2
            have m3 := HKW.out.cell 3
            simp at m0 m1 m2 m3
            go_wp2_with (at_builtin; (refine append_toksA rfl (.tmp 98) (.tmp 100) rfl (C := w4.heap.size) (v := .slice a6 n6 c6) (vx := .slice (some ⟨W.heap.size, 0, none⟩) 1 1) (xs := TA ++ (TB.take k).map (shiftT d)) (ys := [tk]) rfl (HOW.out.alloc _) rfl (src_tok (World.cell?_alloc_at _ _ _ _ rfl) (World.cell?_alloc_at _ _ _ _ rfl) (World.cell?_alloc_at _ _ _ _ rfl) (World.cell?_alloc_at _ _ _ _ rfl)) HOKS.out (by simp; omega) (by simp; omega) ?_; intro v7 w7 ho7 hg7 hat7; have HO7 := Lib.hid ho7; have HG7 := Lib.hid hg7; clear ho7 hg7 hat7))
            go_round
            case rel => exact ⟨k + 1, by omega, by go_num, by rw [HTS.out, ← List.append_assoc]; exact HO7.out, (HBX.out.alloc hzW _).grown HG7.out (by simp; omega) (fun k hk => (HRO.out k hk).1)⟩
            case measure => simp [intOf]; omega
          · obtain rfl : k = TB.length := by omega
            rw [List.take_length] at HO
            have HTO := Lib.hid (Tk.of HO.out)
            have HTCR := Lib.hid ((HTC.out.ext HBR.out))
            go_wp2_with fail
            refine (equal_any wr.heap.size wr _ _ _ _ HTCR.out HTO.out).mono ?_
            rintro e x1 ⟨rfl, hdr⟩
            have HEQ : Hid (eqT (TA ++ TB.map (shiftT d)) (TA ++ TB.map (shiftT d)) = true) := Lib.hid (by unfold eqT; simp)
            rw [HEQ.out]
            have HBF : Hid (Below w.heap.size w x1) := Lib.hid (HBW.out.trans ((hdr.below wr.heap.size).mono HBW.out.size))
            clear hdr
            go_wp2
            go_ret
            exact ⟨rfl, HBF.out⟩
end Go.Proofs.YtagjiljhbdjlfaaDoor
