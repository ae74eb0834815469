/-
  Layer 3: the walk of LexPlaces (printed by tools/places.py).
-/
import Derived.Test.YtagjiljhbdjlfaaDoorLx23
import Derived.Test.YtagjiljhbdjlfaaDoorLx24
import Derived.Test.YtagjiljhbdjlfaaDoorLn4
set_option linter.unusedVariables false
set_option linter.unusedSimpArgs false
namespace Go.Proofs.YtagjiljhbdjlfaaDoor
open Go.RowKit

theorem lexE_zero {l : List UInt8} (h : lexE l = 0) (hl : l.length ≤ 65536) : lexA l 0 = (lexT l, none) := by
  have h2 : ¬ l.length > 65536 := by omega
  cases hx : (lexA l 0).2 with
  | none =>
    obtain ⟨_, _, e⟩ := lex_none hx hl
    rw [e, ← hx]
  | some i =>
    obtain ⟨e, _⟩ := lex_some hx hl
    rw [e] at h
    cases h
/-- the state of a gap, at a byte -/
theorem gap_at {l : List UInt8} {j E : Nat} {b : UInt8} {c cf : Bool} (hb : l[j]? = some b) (hj : j < E) (h : gapF ((l.drop j).take (E - j)) c = some cf) :
    ∃ c', gapC b (if j + 1 < E then l[j + 1]? else none) c = c' ∧ (c' = false → isSpc b = true) ∧ gapF ((l.drop (j + 1)).take (E - (j + 1))) c' = some cf := by
  have e : (l.drop j).take (E - j) = b :: (l.drop (j + 1)).take (E - (j + 1)) := by
    rw [drop_at hb, show E - j = (E - (j + 1)) + 1 by omega, List.take_succ_cons]
  rw [e] at h
  have hh : ((l.drop (j + 1)).take (E - (j + 1))).head? = if j + 1 < E then l[j + 1]? else none := by
    rw [List.head?_take]
    by_cases h1 : j + 1 < E
    · rw [if_neg (by omega), if_pos h1, List.head?_drop]
    · rw [if_pos (by omega), if_neg h1]
  obtain ⟨nx, hnx⟩ : ∃ nx, (if j + 1 < E then l[j + 1]? else none) = nx := ⟨_, rfl⟩
  rw [hnx] at hh ⊢
  clear hnx
  simp only [gapF, hh] at h
  split at h
  · cases h
  · rename_i h1
    refine ⟨_, rfl, fun h2 => ?_, h⟩
    rw [h2] at h1
    simpa using h1
theorem gap_end {l : List UInt8} {E : Nat} {c cf : Bool} (h : gapF ((l.drop E).take (E - E)) c = some cf) : c = cf := by
  rw [Nat.sub_self, List.take_zero] at h
  exact Option.some.inj h
theorem drop_tok {T : List Tok} {k : Nat} (h : k < T.length) : T.drop k = tokAt T k :: T.drop (k + 1) := by
  rw [List.drop_eq_getElem_cons h, tokAt_get h]

set_option maxHeartbeats 8000000 in
set_option maxRecDepth 100000 in
theorem lexPlaces_any (s : ByteArray) (w : World) (hL : LaidW w) (hs : s.size ≤ 140737488351232) :
    Calls Tryd.prog 6 #[.string s] w fun e w' => e = .returned (.bool true) ∧ Below w.heap.size w w' := by
  have HL0 := Lib.hid hL
  have h4 := hL.size
  have hlen := size_data s
  clear hL
  go_enter Tryd.func6, Tryd.ntmps6
  go_wp2_with fail
  refine (sane_any w HL0.out).mono ?_
  rintro e w1 ⟨rfl, hb⟩
  have HB1 := Lib.hid hb
  have HL1 := Lib.hid (HL0.out.below hb h4)
  clear hb
  by_cases hbig : 3000 < s.size
  · have hbig2 : (3000 : Int) < (s.size : Int) := by omega
    clear hlen
    go_wp2
    go_ret
    exact ⟨rfl, HB1.out⟩
  · have hsm : (s.size : Int) ≤ 3000 := by omega
    have hs2 : s.size ≤ 3000 := by omega
    clear hbig
    go_wp2_with fail
    refine (lex_any s w1 HL1.out (by omega)).mono ?_
    rintro e w2 ⟨v, rfl, ho, hb⟩
    have HB2 : Hid (Below w.heap.size w w2) := Lib.hid (HB1.out.trans (hb.mono HB1.out.size))
    obtain ⟨a2, c2, rfl⟩ := ho.form
    have HT2 : Hid (Tk w2 _ (lexT s.data.toList)) := Lib.hid (Tk.of ho)
    have HTL := Lib.hid (back_len (l := s.data.toList) (by omega))
    clear hb ho
    by_cases hE : lexE s.data.toList = 0
    · have HA0 := Lib.hid (lexE_zero hE (by omega))
      have HVT : Hid (∀ t ∈ lexT s.data.toList, validB t = true) := Lib.hid (by
        intro t ht
        have h1 := HA0.out
        have := lexA_valid s.data.toList 0 t (by rw [h1]; exact ht)
        exact this)
      have HPT := Lib.hid (lexT_pos (l := s.data.toList))
      rw [hE]
      clear hE
      obtain ⟨T, hT⟩ : ∃ T, lexT s.data.toList = T := ⟨_, rfl⟩
      rw [hT] at HT2 HTL HA0 HVT HPT ⊢
      clear hT
      have HLN := Lib.hid hlen
      have HG := Lib.hid (fun k (hk : k < s.size) => data_get hk)
      have hTl : T.length ≤ 3000 := by have := HTL.out; omega
      have hTl2 : (T.length : Int) ≤ 3000 := by omega
      have hz2 := HB2.out.size
      clear hlen
      go_wp2
      go_loopw [6, 7] (fun iv kv wr => ∃ (i k : Nat), iv = .int .i64 i ∧ kv = .int .i64 k ∧ k ≤ T.length ∧ i ≤ s.size ∧ lexA (s.data.toList.drop i) i = (T.drop k, none) ∧ Below w2.heap.size w2 wr) (fun iv kv _ => T.length + 1 - (intOf kv).toNat)
      case atStart => exact ⟨0, 0, rfl, rfl, Nat.zero_le _, Nat.zero_le _, HA0.out, Below.refl _ _⟩
      case round =>
        obtain ⟨i, k, rfl, rfl, hk, hi, hlx, hbr⟩ := hrel
        have HLX := Lib.hid hlx
        have HBR := Lib.hid hbr
        have HTR := Lib.hid (HT2.out.ext hbr)
        have HBW : Hid (Below w.heap.size w wr) := Lib.hid (HB2.out.trans (hbr.mono hz2))
        have hzr := hbr.size
        have hk2 : (k : Int) ≤ (T.length : Int) := by omega
        clear hlx hbr
        by_cases hlt : k < T.length
        · have HNX := Lib.hid (next_law _ _ _ _ (Nat.le_refl _) HLX.out)
          have hnx := HNX.out
          rw [drop_tok hlt] at hnx
          obtain ⟨g, q1, q2, q3, q4, q5, q6⟩ := hnx
          obtain ⟨b, off, rfl, bb, g0, g1, g2, g3⟩ := HTR.out.cells hlt
          have HOK := Lib.hid (HTR.out.ok hlt)
          have HVK := Lib.hid (HVT.out (tokAt T k) (by rw [tokAt_get hlt]; exact List.getElem_mem hlt))
          rw [List.length_drop, HLN.out] at q2
          obtain ⟨E, hEe⟩ : ∃ E : Nat, i + g = E := ⟨_, rfl⟩
          have hEg : g = E - i := by omega
          have hiE : i ≤ E := by omega
          subst hEg
          obtain ⟨m, hm⟩ : ∃ m, (txt (tokAt T k)).length = m := ⟨_, rfl⟩
          rw [hm] at q2 q4 q5 q6
          have HM := Lib.hid hm
          rw [hEe] at q1
          have hEs : E + m ≤ s.size := by omega
          have HGP := Lib.hid q3
          have HTX : Hid ((s.data.toList.drop E).take m = txt (tokAt T k)) := Lib.hid (by rw [List.drop_drop, hEe] at q5; exact q5)
          have HL2 : Hid (lexA (s.data.toList.drop (E + m)) (E + m) = (T.drop (k + 1), none)) := Lib.hid (by rw [List.drop_drop, show i + (E - i + m) = E + m by omega, hEe] at q6; exact q6)
          rw [q1] at g3
          have b1 : (i : Int) ≤ (E : Int) := by omega
          have b2 : (E : Int) ≤ (s.size : Int) := by omega
          clear q1 q2 q3 q5 q6 hEe hm g0 g1 g2
          go_wp2
          clear g3
          simp only [decide_eq_false (show ¬ E < i by omega), decide_eq_false (show ¬ s.size < E by omega), Bool.or_false]
          go_loop [6, 9] (fun jv cv => ∃ (j : Nat) (c : Bool), jv = .int .i64 j ∧ cv = .bool c ∧ i ≤ j ∧ j ≤ E ∧ gapF ((s.data.toList.drop j).take (E - j)) c = some false) (fun jv cv => E - (intOf jv).toNat)
          case atStart => exact ⟨i, false, rfl, rfl, Nat.le_refl _, hiE, HGP.out⟩
          case round =>
            obtain ⟨j, c, rfl, rfl, hj1, hj2, hgp⟩ := hrel
            have HGJ := Lib.hid hgp
            clear hgp
            by_cases hj : j < E
            · have hjs : j < s.size := by omega
              obtain ⟨c', hc', hsp, hgn⟩ := gap_at (HG.out j hjs) hj HGJ.out
              have HGN := Lib.hid hgn
              clear hgn
              have hj3 : (j : Int) < (E : Int) := by omega
              by_cases h10 : s[j] = 10
              · have HS : Hid (isSpc s[j] = true) := Lib.hid (by rw [h10]; rfl)
                have hce : c' = false := by rw [← hc', h10]; rfl
                subst hce
                have n10 : (s[j].toNat : Int) = 10 := by rw [h10]; rfl
                clear hsp hc' h10
                go_upto_region 21 with fail
                clear n10
                go_wp2_with fail
                refine (rspace_any s[j] wr).mono ?_
                rintro e w7 ⟨rfl, hw⟩
                rw [hw, HS.out]
                clear hw
                go_wp2
                go_round
                case rel => exact ⟨j + 1, false, by go_num, rfl, by omega, by omega, HGN.out⟩
                case measure => simp [intOf]; omega
              · have n10 : ¬ (s[j].toNat : Int) = 10 := fun e => h10 (UInt8.toNat_inj.1 (by show _ = 10; omega))
                have hb10 : (s[j] != 10) = true := by simpa using h10
                cases c with
                | true =>
                  have hce : c' = true := by rw [← hc']; unfold gapC; rw [hb10]; rfl
                  subst hce
                  clear hsp hc' h10 hb10
                  go_wp2
                  go_round
                  case rel => exact ⟨j + 1, true, by go_num, (by first | rfl | exact congrArg Value.bool (by simpa using n10)), by omega, by omega, HGN.out⟩
                  case measure => simp [intOf]; omega
                | false =>
                  by_cases h47 : s[j] = 47
                  · have hce : c' = true := by
                      cases c' with
                      | true => rfl
                      | false => have := hsp rfl; rw [h47] at this; cases this
                    subst hce
                    have n47 : (s[j].toNat : Int) = 47 := by rw [h47]; rfl
                    unfold gapC at hc'
                    rw [hb10, h47] at hc'
                    have hj4 : j + 1 < E := by
                      by_cases h : j + 1 < E
                      · exact h
                      · rw [if_neg h] at hc'; cases hc'
                    have hj6 : j + 1 < s.size := by omega
                    rw [if_pos hj4, HG.out (j + 1) hj6] at hc'
                    have hj5 : s[j + 1] = 47 := by simpa using hc'
                    have n47b : (s[j + 1].toNat : Int) = 47 := by rw [hj5]; rfl
                    have hj7 : (j : Int) + 1 < (E : Int) := by omega
                    clear hsp hc' hj5 h10 h47 hb10
                    go_upto_region 21 with fail
                    clear n47 n47b
                    go_wp2
                    go_round
                    case rel => exact ⟨j + 1, true, by go_num, (by first | rfl | exact congrArg Value.bool (by simpa using n10)), by omega, by omega, HGN.out⟩
                    case measure => simp [intOf]; omega
                  · have n47 : ¬ (s[j].toNat : Int) = 47 := fun e => h47 (UInt8.toNat_inj.1 (by show _ = 47; omega))
                    have hb47 : (s[j] == 47) = false := by simpa using h47
                    have hce : c' = false := by rw [← hc']; unfold gapC; rw [hb47]; simp
                    subst hce
                    have HS := Lib.hid (hsp rfl)
                    clear hsp hc' h10 h47 hb10 hb47
                    go_upto_region 21 with fail
                    clear n47
                    go_wp2_with fail
                    refine (rspace_any s[j] wr).mono ?_
                    rintro e w7 ⟨rfl, hw⟩
                    rw [hw, HS.out]
                    clear hw
                    go_wp2
                    go_round
                    case rel => exact ⟨j + 1, false, by go_num, rfl, by omega, by omega, HGN.out⟩
                    case measure => simp [intOf]; omega
            · obtain rfl : j = E := by omega
              obtain rfl := gap_end HGJ.out
              have HEX : Hid (s.extract j (j + m) = (⟨(txt (tokAt T k)).toArray⟩ : ByteArray)) := Lib.hid (by
                have h1 := extract_list s j (j + m)
                rw [show j + m - j = m by omega, HTX.out] at h1
                rw [← h1])
              obtain ⟨b', off', he, bb', g0, g1, g2, g3⟩ := HTR.out.cells hlt
              obtain ⟨rfl, rfl⟩ : b = b' ∧ off = off' := by injection he with he; injection he with h1 h2; exact ⟨h1, h2⟩
              clear he bb'
              go_wp2_with fail
              refine (spelled_any (tokAt T k) wr HOK.out (fun h2 => (valid_num HVK.out h2).2)).mono ?_
              rintro e w7 ⟨rfl, hb⟩
              have HB7 : Hid (Below w2.heap.size w2 w7) := Lib.hid (HBR.out.trans (hb.mono hzr))
              clear hb g0 g1 g2 g3
              obtain ⟨sx, hsx⟩ : ∃ sx : ByteArray, (⟨(txt (tokAt T k)).toArray⟩ : ByteArray) = sx := ⟨_, rfl⟩
              have hxm : sx.size = m := by rw [← hsx, len_mk]; exact HM.out
              rw [show strV (txt (tokAt T k)) = .string sx from by rw [← hsx]]
              rw [hsx] at HEX
              clear hsx
              have hx0 : ((m : Int) == 0) = false := by simp; omega
              have hx1 : (0 : Int) < (sx.size : Int) := by omega
              have hx2 : (j : Int) + (sx.size : Int) ≤ (s.size : Int) := by omega
              have hx3 : (j : Int) ≤ (j : Int) + (sx.size : Int) := by omega
              have hEX := HEX.out
              go_wp2
              go_roundw
              case rel => exact ⟨j + m, k + 1, by go_num, by go_num, by omega, by omega, HL2.out, HB7.out⟩
              case measure => simp [intOf]; omega
        · have hkt : (k : Int) = (T.length : Int) := by omega
          have hnx := next_law _ _ _ _ (Nat.le_refl _) HLX.out
          rw [List.drop_of_length_le (by omega : T.length ≤ k)] at hnx
          obtain ⟨cf, hcf⟩ := hnx
          have HGP : Hid (gapF ((s.data.toList.drop i).take (s.size - i)) false = some cf) := Lib.hid (by
            rw [List.take_of_length_le (by rw [List.length_drop, HLN.out]; omega)]
            exact hcf)
          have hiE : i ≤ s.size := by omega
          have hTT : T.length = k := by omega
          have b1 : (i : Int) ≤ (s.size : Int) := by omega
          clear hcf
          go_wp2
          simp only [decide_eq_false (show ¬ s.size < i by omega), decide_eq_false (show ¬ s.size < s.size by omega), Bool.or_false]
          go_loop [6, 9] (fun jv cv => ∃ (j : Nat) (c : Bool), jv = .int .i64 j ∧ cv = .bool c ∧ i ≤ j ∧ j ≤ s.size ∧ gapF ((s.data.toList.drop j).take (s.size - j)) c = some cf) (fun jv cv => s.size - (intOf jv).toNat)
          case atStart => exact ⟨i, false, rfl, rfl, Nat.le_refl _, hiE, HGP.out⟩
          case round =>
            obtain ⟨j, c, rfl, rfl, hj1, hj2, hgp⟩ := hrel
            have HGJ := Lib.hid hgp
            clear hgp
            by_cases hj : j < s.size
            · have hjs : j < s.size := by omega
              obtain ⟨c', hc', hsp, hgn⟩ := gap_at (HG.out j hjs) hj HGJ.out
              have HGN := Lib.hid hgn
              clear hgn
              have hj3 : (j : Int) < (s.size : Int) := by omega
              by_cases h10 : s[j] = 10
              · have HS : Hid (isSpc s[j] = true) := Lib.hid (by rw [h10]; rfl)
                have hce : c' = false := by rw [← hc', h10]; rfl
                subst hce
                have n10 : (s[j].toNat : Int) = 10 := by rw [h10]; rfl
                clear hsp hc' h10
                go_upto_region 21 with fail
                clear n10
                go_wp2_with fail
                refine (rspace_any s[j] wr).mono ?_
                rintro e w7 ⟨rfl, hw⟩
                rw [hw, HS.out]
                clear hw
                go_wp2
                go_round
                case rel => exact ⟨j + 1, false, by go_num, rfl, by omega, by omega, HGN.out⟩
                case measure => simp [intOf]; omega
              · have n10 : ¬ (s[j].toNat : Int) = 10 := fun e => h10 (UInt8.toNat_inj.1 (by show _ = 10; omega))
                have hb10 : (s[j] != 10) = true := by simpa using h10
                cases c with
                | true =>
                  have hce : c' = true := by rw [← hc']; unfold gapC; rw [hb10]; rfl
                  subst hce
                  clear hsp hc' h10 hb10
                  go_wp2
                  go_round
                  case rel => exact ⟨j + 1, true, by go_num, (by first | rfl | exact congrArg Value.bool (by simpa using n10)), by omega, by omega, HGN.out⟩
                  case measure => simp [intOf]; omega
                | false =>
                  by_cases h47 : s[j] = 47
                  · have hce : c' = true := by
                      cases c' with
                      | true => rfl
                      | false => have := hsp rfl; rw [h47] at this; cases this
                    subst hce
                    have n47 : (s[j].toNat : Int) = 47 := by rw [h47]; rfl
                    unfold gapC at hc'
                    rw [hb10, h47] at hc'
                    have hj4 : j + 1 < s.size := by
                      by_cases h : j + 1 < s.size
                      · exact h
                      · rw [if_neg h] at hc'; cases hc'
                    have hj6 : j + 1 < s.size := by omega
                    rw [if_pos hj4, HG.out (j + 1) hj6] at hc'
                    have hj5 : s[j + 1] = 47 := by simpa using hc'
                    have n47b : (s[j + 1].toNat : Int) = 47 := by rw [hj5]; rfl
                    have hj7 : (j : Int) + 1 < (s.size : Int) := by omega
                    clear hsp hc' hj5 h10 h47 hb10
                    go_upto_region 21 with fail
                    clear n47 n47b
                    go_wp2
                    go_round
                    case rel => exact ⟨j + 1, true, by go_num, (by first | rfl | exact congrArg Value.bool (by simpa using n10)), by omega, by omega, HGN.out⟩
                    case measure => simp [intOf]; omega
                  · have n47 : ¬ (s[j].toNat : Int) = 47 := fun e => h47 (UInt8.toNat_inj.1 (by show _ = 47; omega))
                    have hb47 : (s[j] == 47) = false := by simpa using h47
                    have hce : c' = false := by rw [← hc']; unfold gapC; rw [hb47]; simp
                    subst hce
                    have HS := Lib.hid (hsp rfl)
                    clear hsp hc' h10 h47 hb10 hb47
                    go_upto_region 21 with fail
                    clear n47
                    go_wp2_with fail
                    refine (rspace_any s[j] wr).mono ?_
                    rintro e w7 ⟨rfl, hw⟩
                    rw [hw, HS.out]
                    clear hw
                    go_wp2
                    go_round
                    case rel => exact ⟨j + 1, false, by go_num, rfl, by omega, by omega, HGN.out⟩
                    case measure => simp [intOf]; omega
            · obtain rfl : j = s.size := by omega
              obtain rfl := gap_end HGJ.out
              go_wp2
              go_ret
              exact ⟨rfl, HBW.out⟩
    · have hE2 : (lexE s.data.toList != 0) = true := by simpa using hE
      have hlen0 : (((lexT s.data.toList).length : Int) == 0) = true := by rw [lexT_err hE]; rfl
      have HTE := Lib.hid (lexT_err hE)
      clear hE hlen
      go_wp2
      go_ret
      exact ⟨by rw [HTE.out]; rfl, HB2.out⟩
end Go.Proofs.YtagjiljhbdjlfaaDoor
