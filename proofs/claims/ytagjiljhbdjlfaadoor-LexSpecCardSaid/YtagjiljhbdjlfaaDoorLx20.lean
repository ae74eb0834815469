/-
  Layer 3: the walk of frankingref03.Lex (printed by tools/rlex.py).
-/
import Derived.Test.YtagjiljhbdjlfaaDoorLx19
import Derived.Test.YtagjiljhbdjlfaaDoorLx12
set_option linter.unusedVariables false
set_option linter.unusedSimpArgs false
namespace Go.Proofs.YtagjiljhbdjlfaaDoor
open Go.RowKit

theorem tw_end {s : ByteArray} {at_ k : Nat} {p : UInt8 → Bool} (h1 : at_ ≤ k) (h2 : k ≤ s.size) (ha : ∀ j (hj : j < s.size), at_ ≤ j → j < k → p s[j] = true) (hn : ∀ (h : k < s.size), p s[k] = false) :
    (s.data.toList.drop at_).takeWhile p = (s.extract at_ k).data.toList ∧ ((s.data.toList.drop at_).takeWhile p).length = k - at_ := by
  have hl : s.data.toList.length = s.size := size_data s
  have := tw_len (p := p) (l := s.data.toList.drop at_) (n := k - at_) (by simp only [List.length_drop, hl]; omega) (fun j c hj hc => by
    rw [List.getElem?_drop] at hc
    rw [data_get (by omega)] at hc
    cases hc
    exact ha (at_ + j) (by omega) (by omega) (by omega)) (fun c hc => by
    rw [List.getElem?_drop, show at_ + (k - at_) = k by omega] at hc
    have hk : k < s.size := by have := (List.getElem?_eq_some_iff.1 hc).1; omega
    rw [data_get hk] at hc
    cases hc
    exact hn hk)
  rw [this, extract_list]
  refine ⟨rfl, ?_⟩
  rw [List.length_take, List.length_drop, hl]
  omega
theorem mem_tw {p : UInt8 → Bool} {l : List UInt8} {c : UInt8} (h : c ∈ l.takeWhile p) : p c = true := by
  have := List.all_takeWhile (p := p) (l := l)
  exact List.all_eq_true.1 this c h
theorem extract_one {s : ByteArray} {k : Nat} (h : k < s.size) : (s.extract k (k + 1)).data.toList = [s[k]] := by
  have hl := size_data s
  rw [extract_list, show k + 1 - k = 1 by omega]
  have h1 : s.data.toList.drop k = s[k] :: s.data.toList.drop (k + 1) := by
    have h2 := data_get h
    obtain ⟨hlt, he⟩ := List.getElem?_eq_some_iff.1 h2
    rw [List.drop_eq_getElem_cons hlt, he]
  rw [h1]
  rfl
theorem results_tmp3 {fn : Func} {t u x : Tmp} (h : fn.results = #[.tmp t, .tmp u, .tmp x]) (tmps : Array Value) (P : Program) (w : World) :
    (results fn tmps).run P w = .ok (.tuple #[tmps.getD t undef, tmps.getD u undef, tmps.getD x undef]) w := by
  simp [results, h]
theorem lex_bad_out {l : List UInt8} {k : Nat} (h : (lexA l 0).2 = some k) (hl : l.length ≤ 65536) : lexT l = [] ∧ lexP l = k ∧ lexE l = 30 := by
  have h2 : ¬ l.length > 65536 := by omega
  unfold lexT lexP lexE
  rw [if_neg h2, if_neg h2, if_neg h2, h]
  exact ⟨rfl, rfl, rfl⟩
theorem lex_good_out {l : List UInt8} {ts : List Tok} (h : lexA l 0 = (ts, none)) (hl : l.length ≤ 65536) : lexT l = ts ∧ lexP l = 0 ∧ lexE l = 0 := by
  have h2 : ¬ l.length > 65536 := by omega
  unfold lexT lexP lexE
  rw [if_neg h2, if_neg h2, if_neg h2, h]
  exact ⟨rfl, rfl, rfl⟩

set_option maxHeartbeats 8000000 in
set_option maxRecDepth 100000 in
theorem rlex_any (s : ByteArray) (w : World) (hs : s.size ≤ 9223372036854775806) :
    Calls Tryd.prog 13 #[.string s] w (LexPost s w) := by
  have hlen := size_data s
  by_cases hbig : 65536 < s.size
  · have HP : Hid (lexT s.data.toList = [] ∧ lexP s.data.toList = 0 ∧ lexE s.data.toList = 2) := Lib.hid (by unfold lexT lexP lexE; rw [hlen]; simp [hbig])
    clear hlen
    have hbig2 : (65536 : Int) < (s.size : Int) := by omega
    go_enter Tryd.func13, Tryd.ntmps13
    go_wp2
    refine bodyPost_ret (results_tmp3 rfl _ _ _) rfl ?_
    obtain ⟨e1, e2, e3⟩ := HP.out
    refine ⟨.slice none 0 0, by rw [e2, e3]; rfl, ?_, Below.refl _ _⟩
    rw [e1]
    exact OwnToks.nil _ _
  · have hsm : s.size ≤ 65536 := by omega
    have hsm2 : (s.size : Int) ≤ 65536 := by omega
    have HLN := Lib.hid hlen
    have HG := Lib.hid (fun k (hk : k < s.size) => data_get hk)
    clear hbig hlen
    go_enter Tryd.func13, Tryd.ntmps13
    go_wp2
    go_loopw [5, 6] (fun v i wr => ∃ (k : Nat) (ts : List Tok), i = .int .i64 k ∧ LexInv s.data.toList k ts ∧ OwnToks w.heap.size wr v ts ∧ Below w.heap.size w wr) (fun v i _ => s.size - (intOf i).toNat)
    case atStart => exact ⟨0, [], rfl, inv_start _, OwnToks.made rfl (Nat.le_refl _), (Below.refl _ _).alloc (Nat.le_refl _) _⟩
    case round =>
      obtain ⟨k, ts, rfl, hinv, ho, hbr⟩ := hrel
      obtain ⟨av, nv, cv, rfl⟩ := ho.form'
      have HI := Lib.hid hinv
      have HO := Lib.hid ho
      have HBR := Lib.hid hbr
      have hzr := hbr.size
      have hnt := hinv.2.2.1
      have hkl : k ≤ s.size := by have := hinv.2.1; rw [HLN.out] at this; exact this
      clear hinv ho hbr
      by_cases hlt : k < s.size
      · have HK := Lib.hid (HG.out k hlt)
        have HDR := Lib.hid (drop_at HK.out)
        cases hsp : isSpc s[k] with
        | true =>
          have HS : Hid (stepL (s.data.toList.drop k) = some (1, none)) := Lib.hid (by rw [HDR.out]; exact step_spc hsp)
          have HI2 := Lib.hid (inv_skip HI.out HS.out)
          have H1 := Lib.hid hsp
          clear hsp
          go_wp2_with fail
          refine (rspace_any s[k] wr).mono ?_
          rintro e w1 ⟨rfl, hw⟩
          rw [hw, H1.out]
          clear hw
          go_wp2
          go_roundw
          case rel => exact ⟨k + 1, ts, by go_num, HI2.out, HO.out, HBR.out⟩
          case measure => simp [intOf]; omega
        | false =>
          have H1 := Lib.hid hsp
          cases hcm : (s[k] == 47 && (s.data.toList.drop (k + 1)).head? == some 47) with
          | true =>
            have h47 : s[k] = 47 ∧ (s.data.toList.drop (k + 1)).head? = some 47 := by simpa using hcm
            obtain ⟨g1, g2⟩ := h47
            rw [List.head?_drop] at g2
            have hk1 : k + 1 < s.size := by have := (List.getElem?_eq_some_iff.1 g2).1; rw [HLN.out] at this; exact this
            rw [HG.out (k + 1) hk1] at g2
            have N1 : Hid ((s[k].toNat : Int) = 47) := Lib.hid (by rw [g1]; rfl)
            have N2 : Hid ((s[k + 1].toNat : Int) = 47) := Lib.hid (by rw [Option.some.inj g2]; rfl)
            have hk2 : ((k : Int) + 1) < (s.size : Int) := by omega
            have HS : Hid (stepL (s.data.toList.drop k) = some (comLen (s.data.toList.drop k), none)) := Lib.hid (by rw [HDR.out, stepL, hsp, hcm]; simp)
            have HI2 := Lib.hid (inv_skip HI.out HS.out)
            have HP := Lib.hid (step_pos HS.out)
            clear hsp hcm g1 g2
            go_wp2_with fail
            refine (rspace_any s[k] wr).mono ?_
            rintro e w1 ⟨rfl, hw⟩
            rw [hw, H1.out]
            clear hw
            have n1 := N1.out
            have n2 := N2.out
            go_wp2
            clear n1 n2
            go_loop [6] (fun i => ∃ j : Nat, k ≤ j ∧ j ≤ s.size ∧ i = .int .i64 j ∧ ∀ q (hq : q < s.size), k ≤ q → q < j → (s[q] != 10) = true) (fun i => s.size - (intOf i).toNat)
            case atStart => exact ⟨k, Nat.le_refl _, hkl, rfl, fun q hq h1 h2 => by omega⟩
            case round =>
              obtain ⟨j, hj1, hj2, rfl, hall⟩ := hrel
              have HA := Lib.hid hall
              clear hall
              by_cases hj : j < s.size
              · by_cases h10 : (s[j].toNat : Int) = 10
                · have HT : Hid (comLen (s.data.toList.drop k) = j - k) := Lib.hid (tw_end (p := fun c => c != 10) hj1 hj2 HA.out (fun h => by have e : s[j] = 10 := UInt8.toNat_inj.1 (by show _ = 10; omega); simp [e])).2
                  rw [HT.out, show k + (j - k) = j by omega] at HI2
                  rw [HT.out] at HP
                  have hp := HP.out.1
                  go_wp2
                  go_roundw
                  case rel => exact ⟨j, ts, by go_num, HI2.out, HO.out, HBR.out⟩
                  case measure => simp [intOf]; omega
                · have HE : Hid ((s[j] != 10) = true) := Lib.hid (by simp only [bne_iff_ne, ne_eq]; intro e; exact h10 (by rw [e]; rfl))
                  go_wp2
                  go_round
                  case rel =>
                    refine ⟨j + 1, by omega, by omega, by go_num, fun q hq h1 h2 => ?_⟩
                    by_cases hqj : q < j
                    · exact HA.out q hq h1 hqj
                    · obtain rfl : q = j := by omega
                      exact HE.out
                  case measure => simp [intOf]; omega
              · obtain rfl : j = s.size := by omega
                have HT : Hid (comLen (s.data.toList.drop k) = s.size - k) := Lib.hid (tw_end (p := fun c => c != 10) hj1 hj2 HA.out (fun h => by omega)).2
                rw [HT.out, show k + (s.size - k) = s.size by omega] at HI2
                rw [HT.out] at HP
                have hp := HP.out.1
                go_wp2
                go_roundw
                case rel => exact ⟨s.size, ts, by go_num, HI2.out, HO.out, HBR.out⟩
                case measure => simp [intOf]; omega
          | false =>
            have HCM := Lib.hid hcm
            cases hlet : isLet s[k] with
            | true =>
              have hpt := let_part hlet
              have HSL : Hid (stepL (s.data.toList.drop k) = if nameB ((s.data.toList.drop k).takeWhile isPart) then some (((s.data.toList.drop k).takeWhile isPart).length, some ⟨1, (s.data.toList.drop k).takeWhile isPart, 0, 0⟩) else none) := Lib.hid (by
                rw [HDR.out]
                simp [stepL, part_spc hpt, part_slash hpt, hlet])
              have HLE := Lib.hid hlet
              have HFIRST := Lib.hid hpt
              have HN47 : Hid (¬ (s[k].toNat : Int) = 47) := Lib.hid (fun e => by
                have e2 : s[k] = 47 := UInt8.toNat_inj.1 (by show _ = 47; omega)
                rw [e2] at hlet
                cases hlet)
              clear hsp hcm hlet hpt
              go_wp2_with fail
              refine (rspace_any s[k] wr).mono ?_
              rintro e w1 ⟨rfl, hw⟩
              rw [hw, H1.out]
              clear hw
              have hn47 := HN47.out
              go_wp2_with fail
              refine (rletter_any s[k] wr).mono ?_
              rintro e w1 ⟨rfl, hw⟩
              rw [hw, HLE.out]
              clear hw
              go_wp2
              go_loop [6] (fun i => ∃ j : Nat, k ≤ j ∧ j ≤ s.size ∧ i = .int .i64 j ∧ ∀ q (hq : q < s.size), k ≤ q → q < j → isPart s[q] = true) (fun i => s.size - (intOf i).toNat)
              case atStart => exact ⟨k, Nat.le_refl _, hkl, rfl, fun q hq h1 h2 => by omega⟩
              case round =>
                obtain ⟨j, hj1, hj2, rfl, hall⟩ := hrel
                have HA := Lib.hid hall
                by_cases hj : j < s.size
                · cases hpp : isPart s[j] with
                  | true =>
                    have HE := Lib.hid hpp
                    clear hpp hall
                    go_wp2_with fail
                    refine (rpart_any s[j] wr).mono ?_
                    rintro e w1 ⟨rfl, hw⟩
                    rw [hw, HE.out]
                    clear hw
                    go_wp2
                    go_round
                    case rel =>
                      refine ⟨j + 1, by omega, by omega, by go_num, fun q hq h1 h2 => ?_⟩
                      by_cases hqj : q < j
                      · exact HA.out q hq h1 hqj
                      · obtain rfl : q = j := by omega
                        exact HE.out
                    case measure => simp [intOf]; omega
                  | false =>
                    have HE := Lib.hid hpp
                    have HPF : Hid (∀ (h : j < s.size), isPart s[j] = false) := Lib.hid (fun _ => HE.out)
                    clear hpp
                    go_wp2_with fail
                    refine (rpart_any s[j] wr).mono ?_
                    rintro e w1 ⟨rfl, hw⟩
                    rw [hw, HE.out]
                    clear hw
                    have HT := Lib.hid (tw_end (p := isPart) hj1 hj2 HA.out HPF.out)
                    have HLX : Hid ((s.extract k j).data.toList.length ≤ 65536) := Lib.hid (by rw [← HT.out.1]; rw [HT.out.2]; omega)
                    have HXS : Hid ((s.extract k j).size ≤ 9223372036854775806) := Lib.hid (by have := HLX.out; rw [size_data] at this; omega)
                    clear hall
                    go_wp2_with fail
                    refine (rname_any (s.extract k j) wr HXS.out).mono ?_
                    rintro e w3 ⟨rfl, hw⟩
                    rw [hw]
                    clear hw
                    cases hnm : nameB (s.extract k j).data.toList with
                    | true =>
                      have HS : Hid (stepL (s.data.toList.drop k) = some (j - k, some ⟨1, (s.extract k j).data.toList, 0, 0⟩)) := Lib.hid (by rw [HSL.out, HT.out.1, hnm, if_pos rfl, ← HT.out.1, HT.out.2])
                      have HI2 : Hid (LexInv s.data.toList j (ts ++ [⟨1, (s.extract k j).data.toList, 0, (k : Int)⟩])) := Lib.hid (by have := inv_tok HI.out HS.out; rw [show k + (j - k) = j by omega] at this; exact this)
                      have hp := (step_pos HS.out).1
                      clear hnm
                      have HOKS : Hid (∀ u ∈ [(⟨1, (s.extract k j).data.toList, 0, (k : Int)⟩ : Tok)], okT u) := Lib.hid (by
                        intro u hu
                        obtain rfl := List.mem_singleton.1 hu
                        refine ⟨by unfold I64; simp only; omega, ?_, by unfold I64; simp only; omega, by unfold I64; simp only; omega⟩
                        have := HLX.out
                        simp only
                        omega)
                      go_wp2_with (at_builtin; (obtain ⟨sx, hsx⟩ : ∃ x, s.extract k j = x := ⟨_, rfl⟩); rw [hsx] at HOKS HI2 ⊢; clear hsx; refine append_toksA rfl (.tmp 78) (.tmp 85) rfl (C := w.heap.size) (v := .slice av nv cv) (vx := .slice (some ⟨wr.heap.size, 0, none⟩) 1 1) (xs := ts) (ys := [⟨1, sx.data.toList, 0, (k : Int)⟩]) rfl (HO.out.alloc _) rfl (src_tok (World.cell?_alloc_at _ _ _ _ rfl) (World.cell?_alloc_at _ _ _ _ rfl) (World.cell?_alloc_at _ _ _ _ rfl) (World.cell?_alloc_at _ _ _ _ rfl)) HOKS.out (by simp; omega) (by simp; omega) ?_; intro v7 w7 ho7 hg7 hat7; have HO7 := Lib.hid ho7; have HG7 := Lib.hid hg7; clear ho7 hg7 hat7)
                      go_roundw
                      case rel => exact ⟨j, _, by go_num, HI2.out, HO7.out, (HBR.out.alloc hzr _).grown HG7.out (by simp; omega) (fun q hq => (HO.out.lt q hq).1)⟩
                      case measure => simp [intOf]; omega
                    | false =>
                      have HS : Hid (stepL (s.data.toList.drop k) = none) := Lib.hid (by rw [HSL.out, HT.out.1, hnm]; rfl)
                      clear hnm
                      have HX := Lib.hid (lex_bad_out (inv_bad HI.out (by rw [HLN.out]; exact hlt) HS.out) (by rw [HLN.out]; exact hsm))
                      go_wp2
                      refine bodyPost_ret (results_tmp3 rfl _ _ _) rfl ?_
                      obtain ⟨x1, x2, x3⟩ := HX.out
                      refine ⟨.slice none 0 0, by rw [x2, x3]; rfl, ?_, HBR.out⟩
                      rw [x1]
                      exact OwnToks.nil _ _
                · obtain rfl : j = s.size := by omega
                  have HPF : Hid (∀ (h : s.size < s.size), isPart s[s.size] = false) := Lib.hid (fun h => by omega)
                  have HT := Lib.hid (tw_end (p := isPart) hj1 hj2 HA.out HPF.out)
                  have HLX : Hid ((s.extract k s.size).data.toList.length ≤ 65536) := Lib.hid (by rw [← HT.out.1]; rw [HT.out.2]; omega)
                  have HXS : Hid ((s.extract k s.size).size ≤ 9223372036854775806) := Lib.hid (by have := HLX.out; rw [size_data] at this; omega)
                  clear hall
                  go_wp2_with fail
                  refine (rname_any (s.extract k s.size) wr HXS.out).mono ?_
                  rintro e w3 ⟨rfl, hw⟩
                  rw [hw]
                  clear hw
                  cases hnm : nameB (s.extract k s.size).data.toList with
                  | true =>
                    have HS : Hid (stepL (s.data.toList.drop k) = some (s.size - k, some ⟨1, (s.extract k s.size).data.toList, 0, 0⟩)) := Lib.hid (by rw [HSL.out, HT.out.1, hnm, if_pos rfl, ← HT.out.1, HT.out.2])
                    have HI2 : Hid (LexInv s.data.toList s.size (ts ++ [⟨1, (s.extract k s.size).data.toList, 0, (k : Int)⟩])) := Lib.hid (by have := inv_tok HI.out HS.out; rw [show k + (s.size - k) = s.size by omega] at this; exact this)
                    have hp := (step_pos HS.out).1
                    clear hnm
                    have HOKS : Hid (∀ u ∈ [(⟨1, (s.extract k s.size).data.toList, 0, (k : Int)⟩ : Tok)], okT u) := Lib.hid (by
                      intro u hu
                      obtain rfl := List.mem_singleton.1 hu
                      refine ⟨by unfold I64; simp only; omega, ?_, by unfold I64; simp only; omega, by unfold I64; simp only; omega⟩
                      have := HLX.out
                      simp only
                      omega)
                    go_wp2_with (at_builtin; (obtain ⟨sx, hsx⟩ : ∃ x, s.extract k s.size = x := ⟨_, rfl⟩); rw [hsx] at HOKS HI2 ⊢; clear hsx; refine append_toksA rfl (.tmp 78) (.tmp 85) rfl (C := w.heap.size) (v := .slice av nv cv) (vx := .slice (some ⟨wr.heap.size, 0, none⟩) 1 1) (xs := ts) (ys := [⟨1, sx.data.toList, 0, (k : Int)⟩]) rfl (HO.out.alloc _) rfl (src_tok (World.cell?_alloc_at _ _ _ _ rfl) (World.cell?_alloc_at _ _ _ _ rfl) (World.cell?_alloc_at _ _ _ _ rfl) (World.cell?_alloc_at _ _ _ _ rfl)) HOKS.out (by simp; omega) (by simp; omega) ?_; intro v7 w7 ho7 hg7 hat7; have HO7 := Lib.hid ho7; have HG7 := Lib.hid hg7; clear ho7 hg7 hat7)
                    go_roundw
                    case rel => exact ⟨s.size, _, by go_num, HI2.out, HO7.out, (HBR.out.alloc hzr _).grown HG7.out (by simp; omega) (fun q hq => (HO.out.lt q hq).1)⟩
                    case measure => simp [intOf]; omega
                  | false =>
                    have HS : Hid (stepL (s.data.toList.drop k) = none) := Lib.hid (by rw [HSL.out, HT.out.1, hnm]; rfl)
                    clear hnm
                    have HX := Lib.hid (lex_bad_out (inv_bad HI.out (by rw [HLN.out]; exact hlt) HS.out) (by rw [HLN.out]; exact hsm))
                    go_wp2
                    refine bodyPost_ret (results_tmp3 rfl _ _ _) rfl ?_
                    obtain ⟨x1, x2, x3⟩ := HX.out
                    refine ⟨.slice none 0 0, by rw [x2, x3]; rfl, ?_, HBR.out⟩
                    rw [x1]
                    exact OwnToks.nil _ _
            | false =>
              have HLE := Lib.hid hlet
              cases hdig : isDig s[k] with
              | true =>
                have hpt := dig_part hdig
                have HSL : Hid (stepL (s.data.toList.drop k) = if numB ((s.data.toList.drop k).takeWhile isDig) then some (((s.data.toList.drop k).takeWhile isDig).length, some ⟨2, [], valOf ((s.data.toList.drop k).takeWhile isDig), 0⟩) else none) := Lib.hid (by
                  rw [HDR.out]
                  simp [stepL, part_spc hpt, part_slash hpt, hlet, hdig])
                have HFIRST := Lib.hid hdig
                have HN47 : Hid (¬ (s[k].toNat : Int) = 47) := Lib.hid (fun e => by
                  have e2 : s[k] = 47 := UInt8.toNat_inj.1 (by show _ = 47; omega)
                  rw [e2] at hdig
                  cases hdig)
                clear hsp hcm hlet hdig hpt
                go_wp2_with fail
                refine (rspace_any s[k] wr).mono ?_
                rintro e w1 ⟨rfl, hw⟩
                rw [hw, H1.out]
                clear hw
                have hn47 := HN47.out
                go_wp2_with fail
                refine (rletter_any s[k] wr).mono ?_
                rintro e w1 ⟨rfl, hw⟩
                rw [hw, HLE.out]
                clear hw
                go_wp2_with fail
                refine (rfigure_any s[k] wr).mono ?_
                rintro e w1 ⟨rfl, hw⟩
                rw [hw, HFIRST.out]
                clear hw
                go_wp2
                go_loop [6] (fun i => ∃ j : Nat, k ≤ j ∧ j ≤ s.size ∧ i = .int .i64 j ∧ ∀ q (hq : q < s.size), k ≤ q → q < j → isDig s[q] = true) (fun i => s.size - (intOf i).toNat)
                case atStart => exact ⟨k, Nat.le_refl _, hkl, rfl, fun q hq h1 h2 => by omega⟩
                case round =>
                  obtain ⟨j, hj1, hj2, rfl, hall⟩ := hrel
                  have HA := Lib.hid hall
                  by_cases hj : j < s.size
                  · cases hpp : isDig s[j] with
                    | true =>
                      have HE := Lib.hid hpp
                      clear hpp hall
                      go_wp2_with fail
                      refine (rfigure_any s[j] wr).mono ?_
                      rintro e w1 ⟨rfl, hw⟩
                      rw [hw, HE.out]
                      clear hw
                      go_wp2
                      go_round
                      case rel =>
                        refine ⟨j + 1, by omega, by omega, by go_num, fun q hq h1 h2 => ?_⟩
                        by_cases hqj : q < j
                        · exact HA.out q hq h1 hqj
                        · obtain rfl : q = j := by omega
                          exact HE.out
                      case measure => simp [intOf]; omega
                    | false =>
                      have HE := Lib.hid hpp
                      have HPF : Hid (∀ (h : j < s.size), isDig s[j] = false) := Lib.hid (fun _ => HE.out)
                      clear hpp
                      go_wp2_with fail
                      refine (rfigure_any s[j] wr).mono ?_
                      rintro e w1 ⟨rfl, hw⟩
                      rw [hw, HE.out]
                      clear hw
                      have HT := Lib.hid (tw_end (p := isDig) hj1 hj2 HA.out HPF.out)
                      have hkj : k ≠ j := by rintro rfl; have := HE.out; rw [HFIRST.out] at this; cases this
                      have HLX : Hid ((s.extract k j).data.toList.length = j - k) := Lib.hid (by rw [← HT.out.1]; rw [HT.out.2])
                      have HXS : Hid ((s.extract k j).size = j - k) := Lib.hid (by have := HLX.out; rw [size_data] at this; exact this)
                      have HXD : Hid (∀ c ∈ (s.extract k j).data.toList, isDig c = true) := Lib.hid (by rw [← HT.out.1]; exact fun c hc => mem_tw hc)
                      clear hall
                      go_wp2_with fail
                      refine (rnumber_any (s.extract k j) wr HXD.out (by rw [HXS.out]; omega) (by rw [HXS.out]; omega)).mono ?_
                      rintro e w3 ⟨⟨nn, rfl, hnn⟩, hdw⟩
                      have HBR3 : Hid (Below w.heap.size w w3) := Lib.hid (HBR.out.trans (hdw.below _))
                      have HO3 : Hid (OwnToks w.heap.size w3 (.slice av nv cv) ts) := Lib.hid (HO.out.below (hdw.below _))
                      have hz3 := HBR3.out.size
                      clear hdw
                      cases hnm : numB (s.extract k j).data.toList with
                      | true =>
                        have hn2 := hnn hnm
                        have HS : Hid (stepL (s.data.toList.drop k) = some (j - k, some ⟨2, [], (valOf (s.extract k j).data.toList : Int), 0⟩)) := Lib.hid (by rw [HSL.out, HT.out.1, hnm, if_pos rfl, HLX.out])
                        have HI2 : Hid (LexInv s.data.toList j (ts ++ [⟨2, [], (valOf (s.extract k j).data.toList : Int), (k : Int)⟩])) := Lib.hid (by have := inv_tok HI.out HS.out; rw [show k + (j - k) = j by omega] at this; exact this)
                        have hp := (step_pos HS.out).1
                        have hvb : (valOf (s.extract k j).data.toList : Int) ≤ 1099511627776 := by
                          have := hnm
                          unfold numB at this
                          simp only [Bool.and_eq_true, decide_eq_true_eq] at this
                          omega
                        have HOKS : Hid (∀ u ∈ [(⟨2, [], (valOf (s.extract k j).data.toList : Int), (k : Int)⟩ : Tok)], okT u) := Lib.hid (by
                          intro u hu
                          obtain rfl := List.mem_singleton.1 hu
                          exact ⟨by unfold I64; simp only; omega, by simp, by unfold I64; simp only; omega, by unfold I64; simp only; omega⟩)
                        rw [← hn2] at HI2 HOKS
                        clear hnm hnn hn2 hvb
                        go_wp2_with (at_builtin; refine append_toksA rfl (.tmp 114) (.tmp 118) rfl (C := w.heap.size) (v := .slice av nv cv) (vx := .slice (some ⟨w3.heap.size, 0, none⟩) 1 1) (xs := ts) (ys := [⟨2, [], nn, (k : Int)⟩]) rfl (HO3.out.alloc _) rfl (src_tok (World.cell?_alloc_at _ _ _ _ rfl) (World.cell?_alloc_at _ _ _ _ rfl) (World.cell?_alloc_at _ _ _ _ rfl) (World.cell?_alloc_at _ _ _ _ rfl)) HOKS.out (by simp; omega) (by simp; omega) ?_; intro v7 w7 ho7 hg7 hat7; have HO7 := Lib.hid ho7; have HG7 := Lib.hid hg7; clear ho7 hg7 hat7)
                        go_roundw
                        case rel => exact ⟨j, _, by go_num, HI2.out, HO7.out, (HBR3.out.alloc hz3 _).grown HG7.out (by simp; omega) (fun q hq => (HO3.out.lt q hq).1)⟩
                        case measure => simp [intOf]; omega
                      | false =>
                        have HS : Hid (stepL (s.data.toList.drop k) = none) := Lib.hid (by rw [HSL.out, HT.out.1, hnm]; rfl)
                        clear hnm hnn
                        have HX := Lib.hid (lex_bad_out (inv_bad HI.out (by rw [HLN.out]; exact hlt) HS.out) (by rw [HLN.out]; exact hsm))
                        go_wp2
                        refine bodyPost_ret (results_tmp3 rfl _ _ _) rfl ?_
                        obtain ⟨x1, x2, x3⟩ := HX.out
                        refine ⟨.slice none 0 0, by rw [x2, x3]; rfl, ?_, HBR3.out⟩
                        rw [x1]
                        exact OwnToks.nil _ _
                  · obtain rfl : j = s.size := by omega
                    have HPF : Hid (∀ (h : s.size < s.size), isDig s[s.size] = false) := Lib.hid (fun h => by omega)
                    have HT := Lib.hid (tw_end (p := isDig) hj1 hj2 HA.out HPF.out)
                    have hkj : k ≠ s.size := by omega
                    have HLX : Hid ((s.extract k s.size).data.toList.length = s.size - k) := Lib.hid (by rw [← HT.out.1]; rw [HT.out.2])
                    have HXS : Hid ((s.extract k s.size).size = s.size - k) := Lib.hid (by have := HLX.out; rw [size_data] at this; exact this)
                    have HXD : Hid (∀ c ∈ (s.extract k s.size).data.toList, isDig c = true) := Lib.hid (by rw [← HT.out.1]; exact fun c hc => mem_tw hc)
                    clear hall
                    go_wp2_with fail
                    refine (rnumber_any (s.extract k s.size) wr HXD.out (by rw [HXS.out]; omega) (by rw [HXS.out]; omega)).mono ?_
                    rintro e w3 ⟨⟨nn, rfl, hnn⟩, hdw⟩
                    have HBR3 : Hid (Below w.heap.size w w3) := Lib.hid (HBR.out.trans (hdw.below _))
                    have HO3 : Hid (OwnToks w.heap.size w3 (.slice av nv cv) ts) := Lib.hid (HO.out.below (hdw.below _))
                    have hz3 := HBR3.out.size
                    clear hdw
                    cases hnm : numB (s.extract k s.size).data.toList with
                    | true =>
                      have hn2 := hnn hnm
                      have HS : Hid (stepL (s.data.toList.drop k) = some (s.size - k, some ⟨2, [], (valOf (s.extract k s.size).data.toList : Int), 0⟩)) := Lib.hid (by rw [HSL.out, HT.out.1, hnm, if_pos rfl, HLX.out])
                      have HI2 : Hid (LexInv s.data.toList s.size (ts ++ [⟨2, [], (valOf (s.extract k s.size).data.toList : Int), (k : Int)⟩])) := Lib.hid (by have := inv_tok HI.out HS.out; rw [show k + (s.size - k) = s.size by omega] at this; exact this)
                      have hp := (step_pos HS.out).1
                      have hvb : (valOf (s.extract k s.size).data.toList : Int) ≤ 1099511627776 := by
                        have := hnm
                        unfold numB at this
                        simp only [Bool.and_eq_true, decide_eq_true_eq] at this
                        omega
                      have HOKS : Hid (∀ u ∈ [(⟨2, [], (valOf (s.extract k s.size).data.toList : Int), (k : Int)⟩ : Tok)], okT u) := Lib.hid (by
                        intro u hu
                        obtain rfl := List.mem_singleton.1 hu
                        exact ⟨by unfold I64; simp only; omega, by simp, by unfold I64; simp only; omega, by unfold I64; simp only; omega⟩)
                      rw [← hn2] at HI2 HOKS
                      clear hnm hnn hn2 hvb
                      go_wp2_with (at_builtin; refine append_toksA rfl (.tmp 114) (.tmp 118) rfl (C := w.heap.size) (v := .slice av nv cv) (vx := .slice (some ⟨w3.heap.size, 0, none⟩) 1 1) (xs := ts) (ys := [⟨2, [], nn, (k : Int)⟩]) rfl (HO3.out.alloc _) rfl (src_tok (World.cell?_alloc_at _ _ _ _ rfl) (World.cell?_alloc_at _ _ _ _ rfl) (World.cell?_alloc_at _ _ _ _ rfl) (World.cell?_alloc_at _ _ _ _ rfl)) HOKS.out (by simp; omega) (by simp; omega) ?_; intro v7 w7 ho7 hg7 hat7; have HO7 := Lib.hid ho7; have HG7 := Lib.hid hg7; clear ho7 hg7 hat7)
                      go_roundw
                      case rel => exact ⟨s.size, _, by go_num, HI2.out, HO7.out, (HBR3.out.alloc hz3 _).grown HG7.out (by simp; omega) (fun q hq => (HO3.out.lt q hq).1)⟩
                      case measure => simp [intOf]; omega
                    | false =>
                      have HS : Hid (stepL (s.data.toList.drop k) = none) := Lib.hid (by rw [HSL.out, HT.out.1, hnm]; rfl)
                      clear hnm hnn
                      have HX := Lib.hid (lex_bad_out (inv_bad HI.out (by rw [HLN.out]; exact hlt) HS.out) (by rw [HLN.out]; exact hsm))
                      go_wp2
                      refine bodyPost_ret (results_tmp3 rfl _ _ _) rfl ?_
                      obtain ⟨x1, x2, x3⟩ := HX.out
                      refine ⟨.slice none 0 0, by rw [x2, x3]; rfl, ?_, HBR3.out⟩
                      rw [x1]
                      exact OwnToks.nil _ _
              | false =>
                have HDE := Lib.hid hdig
                have HSL : Hid (stepL (s.data.toList.drop k) = if isSgn s[k] then some (1, some ⟨3, [s[k]], 0, 0⟩) else none) := Lib.hid (by
                  rw [HDR.out]
                  simp only [stepL, hsp, hcm, hlet, hdig]
                  simp)
                have HXE : Hid ((s.extract k (k + 1)).data.toList = [s[k]]) := Lib.hid (by rw [extract_one hlt])
                have h47c : ¬ (s[k].toNat : Int) = 47 ∨ ((s[k].toNat : Int) = 47 ∧ (¬ k + 1 < s.size ∨ ∃ h : k + 1 < s.size, ¬ (s[k + 1].toNat : Int) = 47)) := by
                  by_cases e1 : s[k] = 47
                  · right
                    refine ⟨by rw [e1]; rfl, ?_⟩
                    by_cases e2 : k + 1 < s.size
                    · right
                      refine ⟨e2, fun e3 => ?_⟩
                      have e4 : s[k + 1] = 47 := UInt8.toNat_inj.1 (by show _ = 47; omega)
                      rw [List.head?_drop, HG.out (k + 1) e2, e4, e1] at hcm
                      simp at hcm
                    · exact .inl e2
                  · left
                    intro e2
                    exact e1 (UInt8.toNat_inj.1 (by show _ = 47; omega))
                have H47 := Lib.hid h47c
                clear hsp hcm hlet hdig h47c
                go_wp2_with fail
                refine (rspace_any s[k] wr).mono ?_
                rintro e w1 ⟨rfl, hw⟩
                rw [hw, H1.out]
                clear hw
                cases hsg : isSgn s[k] with
                | true =>
                  have HSG := Lib.hid hsg
                  have HS : Hid (stepL (s.data.toList.drop k) = some (1, some ⟨3, [s[k]], 0, 0⟩)) := Lib.hid (by rw [HSL.out, hsg, if_pos rfl])
                  have HI2 : Hid (LexInv s.data.toList (k + 1) (ts ++ [⟨3, (s.extract k (k + 1)).data.toList, 0, (k : Int)⟩])) := Lib.hid (by have := inv_tok HI.out HS.out; rw [HXE.out]; exact this)
                  have HOKS : Hid (∀ u ∈ [(⟨3, (s.extract k (k + 1)).data.toList, 0, (k : Int)⟩ : Tok)], okT u) := Lib.hid (by
                    intro u hu
                    obtain rfl := List.mem_singleton.1 hu
                    exact ⟨by unfold I64; simp only; omega, by rw [HXE.out]; simp, by unfold I64; simp only; omega, by unfold I64; simp only; omega⟩)
                  clear hsg
                  rcases H47.out with g | ⟨g, g2 | ⟨g2, g3⟩⟩
                  · go_upto_region 12 with fail
                    clear g
                    go_wp2_with fail
                    refine (rletter_any s[k] wr).mono ?_
                    rintro e w1 ⟨rfl, hw⟩
                    rw [hw, HLE.out]
                    clear hw
                    go_wp2_with fail
                    refine (rfigure_any s[k] wr).mono ?_
                    rintro e w1 ⟨rfl, hw⟩
                    rw [hw, HDE.out]
                    clear hw
                    go_wp2_with fail
                    refine (rsign_any s[k] wr).mono ?_
                    rintro e w1 ⟨rfl, hw⟩
                    rw [hw, HSG.out]
                    clear hw
                    go_wp2_with (at_builtin; (obtain ⟨sx, hsx⟩ : ∃ x, s.extract k (k + 1) = x := ⟨_, rfl⟩); rw [hsx] at HOKS HI2 ⊢; clear hsx; refine append_toksA rfl (.tmp 128) (.tmp 135) rfl (C := w.heap.size) (v := .slice av nv cv) (vx := .slice (some ⟨wr.heap.size, 0, none⟩) 1 1) (xs := ts) (ys := [⟨3, sx.data.toList, 0, (k : Int)⟩]) rfl (HO.out.alloc _) rfl (src_tok (World.cell?_alloc_at _ _ _ _ rfl) (World.cell?_alloc_at _ _ _ _ rfl) (World.cell?_alloc_at _ _ _ _ rfl) (World.cell?_alloc_at _ _ _ _ rfl)) HOKS.out (by simp; omega) (by simp; omega) ?_; intro v7 w7 ho7 hg7 hat7; have HO7 := Lib.hid ho7; have HG7 := Lib.hid hg7; clear ho7 hg7 hat7)
                    go_roundw
                    case rel => exact ⟨k + 1, _, by go_num, HI2.out, HO7.out, (HBR.out.alloc hzr _).grown HG7.out (by simp; omega) (fun q hq => (HO.out.lt q hq).1)⟩
                    case measure => simp [intOf]; omega
                  · have g2 : ¬ (k : Int) + 1 < (s.size : Int) := by omega
                    go_upto_region 12 with fail
                    clear g
                    go_wp2_with fail
                    refine (rletter_any s[k] wr).mono ?_
                    rintro e w1 ⟨rfl, hw⟩
                    rw [hw, HLE.out]
                    clear hw
                    go_wp2_with fail
                    refine (rfigure_any s[k] wr).mono ?_
                    rintro e w1 ⟨rfl, hw⟩
                    rw [hw, HDE.out]
                    clear hw
                    go_wp2_with fail
                    refine (rsign_any s[k] wr).mono ?_
                    rintro e w1 ⟨rfl, hw⟩
                    rw [hw, HSG.out]
                    clear hw
                    go_wp2_with (at_builtin; (obtain ⟨sx, hsx⟩ : ∃ x, s.extract k (k + 1) = x := ⟨_, rfl⟩); rw [hsx] at HOKS HI2 ⊢; clear hsx; refine append_toksA rfl (.tmp 128) (.tmp 135) rfl (C := w.heap.size) (v := .slice av nv cv) (vx := .slice (some ⟨wr.heap.size, 0, none⟩) 1 1) (xs := ts) (ys := [⟨3, sx.data.toList, 0, (k : Int)⟩]) rfl (HO.out.alloc _) rfl (src_tok (World.cell?_alloc_at _ _ _ _ rfl) (World.cell?_alloc_at _ _ _ _ rfl) (World.cell?_alloc_at _ _ _ _ rfl) (World.cell?_alloc_at _ _ _ _ rfl)) HOKS.out (by simp; omega) (by simp; omega) ?_; intro v7 w7 ho7 hg7 hat7; have HO7 := Lib.hid ho7; have HG7 := Lib.hid hg7; clear ho7 hg7 hat7)
                    go_roundw
                    case rel => exact ⟨k + 1, _, by go_num, HI2.out, HO7.out, (HBR.out.alloc hzr _).grown HG7.out (by simp; omega) (fun q hq => (HO.out.lt q hq).1)⟩
                    case measure => simp [intOf]; omega
                  · have g4 : (k : Int) + 1 < (s.size : Int) := by omega
                    go_upto_region 12 with fail
                    clear g
                    go_wp2_with fail
                    refine (rletter_any s[k] wr).mono ?_
                    rintro e w1 ⟨rfl, hw⟩
                    rw [hw, HLE.out]
                    clear hw
                    go_wp2_with fail
                    refine (rfigure_any s[k] wr).mono ?_
                    rintro e w1 ⟨rfl, hw⟩
                    rw [hw, HDE.out]
                    clear hw
                    go_wp2_with fail
                    refine (rsign_any s[k] wr).mono ?_
                    rintro e w1 ⟨rfl, hw⟩
                    rw [hw, HSG.out]
                    clear hw
                    go_wp2_with (at_builtin; (obtain ⟨sx, hsx⟩ : ∃ x, s.extract k (k + 1) = x := ⟨_, rfl⟩); rw [hsx] at HOKS HI2 ⊢; clear hsx; refine append_toksA rfl (.tmp 128) (.tmp 135) rfl (C := w.heap.size) (v := .slice av nv cv) (vx := .slice (some ⟨wr.heap.size, 0, none⟩) 1 1) (xs := ts) (ys := [⟨3, sx.data.toList, 0, (k : Int)⟩]) rfl (HO.out.alloc _) rfl (src_tok (World.cell?_alloc_at _ _ _ _ rfl) (World.cell?_alloc_at _ _ _ _ rfl) (World.cell?_alloc_at _ _ _ _ rfl) (World.cell?_alloc_at _ _ _ _ rfl)) HOKS.out (by simp; omega) (by simp; omega) ?_; intro v7 w7 ho7 hg7 hat7; have HO7 := Lib.hid ho7; have HG7 := Lib.hid hg7; clear ho7 hg7 hat7)
                    go_roundw
                    case rel => exact ⟨k + 1, _, by go_num, HI2.out, HO7.out, (HBR.out.alloc hzr _).grown HG7.out (by simp; omega) (fun q hq => (HO.out.lt q hq).1)⟩
                    case measure => simp [intOf]; omega
                | false =>
                  have HSG := Lib.hid hsg
                  have HS : Hid (stepL (s.data.toList.drop k) = none) := Lib.hid (by rw [HSL.out, hsg]; rfl)
                  clear hsg
                  rcases H47.out with g | ⟨g, g2 | ⟨g2, g3⟩⟩
                  · go_upto_region 12 with fail
                    clear g
                    go_wp2_with fail
                    refine (rletter_any s[k] wr).mono ?_
                    rintro e w1 ⟨rfl, hw⟩
                    rw [hw, HLE.out]
                    clear hw
                    go_wp2_with fail
                    refine (rfigure_any s[k] wr).mono ?_
                    rintro e w1 ⟨rfl, hw⟩
                    rw [hw, HDE.out]
                    clear hw
                    go_wp2_with fail
                    refine (rsign_any s[k] wr).mono ?_
                    rintro e w1 ⟨rfl, hw⟩
                    rw [hw, HSG.out]
                    clear hw
                    have HX := Lib.hid (lex_bad_out (inv_bad HI.out (by rw [HLN.out]; exact hlt) HS.out) (by rw [HLN.out]; exact hsm))
                    go_wp2
                    refine bodyPost_ret (results_tmp3 rfl _ _ _) rfl ?_
                    obtain ⟨x1, x2, x3⟩ := HX.out
                    refine ⟨.slice none 0 0, by rw [x2, x3]; rfl, ?_, HBR.out⟩
                    rw [x1]
                    exact OwnToks.nil _ _
                  · have g2 : ¬ (k : Int) + 1 < (s.size : Int) := by omega
                    go_upto_region 12 with fail
                    clear g
                    go_wp2_with fail
                    refine (rletter_any s[k] wr).mono ?_
                    rintro e w1 ⟨rfl, hw⟩
                    rw [hw, HLE.out]
                    clear hw
                    go_wp2_with fail
                    refine (rfigure_any s[k] wr).mono ?_
                    rintro e w1 ⟨rfl, hw⟩
                    rw [hw, HDE.out]
                    clear hw
                    go_wp2_with fail
                    refine (rsign_any s[k] wr).mono ?_
                    rintro e w1 ⟨rfl, hw⟩
                    rw [hw, HSG.out]
                    clear hw
                    have HX := Lib.hid (lex_bad_out (inv_bad HI.out (by rw [HLN.out]; exact hlt) HS.out) (by rw [HLN.out]; exact hsm))
                    go_wp2
                    refine bodyPost_ret (results_tmp3 rfl _ _ _) rfl ?_
                    obtain ⟨x1, x2, x3⟩ := HX.out
                    refine ⟨.slice none 0 0, by rw [x2, x3]; rfl, ?_, HBR.out⟩
                    rw [x1]
                    exact OwnToks.nil _ _
                  · have g4 : (k : Int) + 1 < (s.size : Int) := by omega
                    go_upto_region 12 with fail
                    clear g
                    go_wp2_with fail
                    refine (rletter_any s[k] wr).mono ?_
                    rintro e w1 ⟨rfl, hw⟩
                    rw [hw, HLE.out]
                    clear hw
                    go_wp2_with fail
                    refine (rfigure_any s[k] wr).mono ?_
                    rintro e w1 ⟨rfl, hw⟩
                    rw [hw, HDE.out]
                    clear hw
                    go_wp2_with fail
                    refine (rsign_any s[k] wr).mono ?_
                    rintro e w1 ⟨rfl, hw⟩
                    rw [hw, HSG.out]
                    clear hw
                    have HX := Lib.hid (lex_bad_out (inv_bad HI.out (by rw [HLN.out]; exact hlt) HS.out) (by rw [HLN.out]; exact hsm))
                    go_wp2
                    refine bodyPost_ret (results_tmp3 rfl _ _ _) rfl ?_
                    obtain ⟨x1, x2, x3⟩ := HX.out
                    refine ⟨.slice none 0 0, by rw [x2, x3]; rfl, ?_, HBR.out⟩
                    rw [x1]
                    exact OwnToks.nil _ _
      · have hge : s.data.toList.length ≤ k := by rw [HLN.out]; omega
        obtain rfl : k = s.size := by omega
        have HX := Lib.hid (lex_good_out (inv_end HI.out hge) (by rw [HLN.out]; exact hsm))
        clear hge
        go_wp2
        refine bodyPost_ret (results_tmp3 rfl _ _ _) rfl ?_
        obtain ⟨x1, x2, x3⟩ := HX.out
        refine ⟨.slice av nv cv, by rw [x2, x3]; rfl, ?_, HBR.out⟩
        rw [x1]
        exact HO.out
end Go.Proofs.YtagjiljhbdjlfaaDoor
