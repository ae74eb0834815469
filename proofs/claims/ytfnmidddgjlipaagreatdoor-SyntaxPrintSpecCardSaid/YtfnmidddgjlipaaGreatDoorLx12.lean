/-
  Layer 3: the walk of lex.Lex.
-/
import Derived.Test.YtfnmidddgjlipaaGreatDoorLx11
import Derived.Laws.EntriesVeiled
set_option linter.unusedVariables false
set_option linter.unusedSimpArgs false
namespace Go.Proofs.YtfnmidddgjlipaaGreatDoor
open Go.RowKit

/-- what Lex answers -/
def LexPost (src : ByteArray) (w : World) (e : Ending) (w' : World) : Prop :=
  ∃ v, e = .returned (.tuple #[v, .int .i64 (lexP src.data.toList), .int .i64 (lexE src.data.toList)]) ∧ OwnToks w.heap.size w' v (lexT src.data.toList) ∧ Below w.heap.size w w'

set_option maxHeartbeats 2000000 in
set_option maxRecDepth 100000 in
theorem lex_any (src : ByteArray) (w : World) (hL : LaidW w) (hs : src.size ≤ 9223372036854775806) :
    Calls Tryz.prog 13 #[.string src] w (LexPost src w) := by
  have hmf : ∀ (fn : Fn) (first cap : Array Value) (w : World), (Instr.makeFunc fn first cap).run Tryz.prog w = .ok (.func fn first cap) w := fun _ _ _ _ => rfl
  have hlen := size_data src
  by_cases hbig : 65536 < src.size
  · have HP : Hid (lexT src.data.toList = [] ∧ lexP src.data.toList = 0 ∧ lexE src.data.toList = 2) := Lib.hid (by unfold lexT lexP lexE; rw [hlen]; simp [hbig])
    clear hlen hL
    go_enter_defers Tryz.func13, Tryz.ntmps13
    go_wp2
    obtain ⟨e1, e2, e3⟩ := HP.out
    refine ⟨.tuple #[.slice none 0 0, .int .i64 0, .int .i64 2], ?_, ?_⟩
    focus simp [results, Tryz.results13, go_sem]
    refine ⟨.slice none 0 0, by rw [e2, e3], ?_, ?_⟩
    focus
      rw [e1]
      exact OwnToks.nil _ _
    exact (((Below.refl _ _).alloc (Nat.le_refl _) _).alloc (by simp) _).alloc (by simp; omega) _
  · have hsm : src.size ≤ 65536 := by omega
    clear hbig
    go_enter_defers Tryz.func13, Tryz.ntmps13
    go_wp2_with fail
    obtain ⟨w5, hw5⟩ : ∃ W, (((((w.alloc (.cells #[.slice none 0 0] 35)).alloc (.cells #[.int .i64 0] 3)).alloc (.cells #[.int .i64 0] 24)).alloc (.cells #[.func (.func 26) #[] #[], .func (.func 27) #[] #[], .func (.func 28) #[] #[], .func (.func 29) #[] #[], .func (.func 30) #[] #[], .func (.func 26) #[] #[]] 57)).alloc (.cells #[.string src, .int .i64 0, .slice none 0 0] 60)) = W := ⟨_, rfl⟩
    have HLA := Lib.hid hL
    have HC2 : Hid (Cell1 w5 w.heap.size (.slice none 0 0)) := Lib.hid (by rw [← hw5]; exact ((((Cell1.new w _ _).alloc _).alloc _).alloc _).alloc _)
    have HC3 : Hid (Cell1 w5 (w.heap.size + 1) (.int .i64 0)) := Lib.hid (by
      rw [← hw5]
      have := (((Cell1.new (w.alloc (.cells #[.slice none 0 0] 35)) (.int .i64 0) 3).alloc (.cells #[.int .i64 0] 24)))
      rw [World.size_alloc] at this
      exact (this.alloc _).alloc _)
    have HC4 : Hid (Cell1 w5 (w.heap.size + 1 + 1) (.int .i64 0)) := Lib.hid (by
      rw [← hw5]
      have := (Cell1.new ((w.alloc (.cells #[.slice none 0 0] 35)).alloc (.cells #[.int .i64 0] 3)) (.int .i64 0) 24)
      rw [World.size_alloc, World.size_alloc] at this
      exact (this.alloc _).alloc _)
    have HT5 : Hid (CellsN w5 (w.heap.size + 1 + 1 + 1) #[.func (.func 26) #[] #[], .func (.func 27) #[] #[], .func (.func 28) #[] #[], .func (.func 29) #[] #[], .func (.func 30) #[] #[], .func (.func 26) #[] #[]]) := Lib.hid (by
      rw [← hw5]
      have := CellsN.new (((w.alloc (.cells #[.slice none 0 0] 35)).alloc (.cells #[.int .i64 0] 3)).alloc (.cells #[.int .i64 0] 24)) #[.func (.func 26) #[] #[], .func (.func 27) #[] #[], .func (.func 28) #[] #[], .func (.func 29) #[] #[], .func (.func 30) #[] #[], .func (.func 26) #[] #[]] 57
      rw [World.size_alloc, World.size_alloc, World.size_alloc] at this
      exact this.alloc _)
    obtain ⟨S, hSe⟩ : ∃ S, w.heap.size + 1 + 1 + 1 + 1 = S := ⟨_, rfl⟩
    have HSC : Hid (Scan S src w5 0 []) := Lib.hid (by
      rw [← hw5, ← hSe]
      refine ⟨.slice none 0 0, ?_, OwnToks.nil _ _⟩
      have := CellsN.new ((((w.alloc (.cells #[.slice none 0 0] 35)).alloc (.cells #[.int .i64 0] 3)).alloc (.cells #[.int .i64 0] 24)).alloc (.cells #[.func (.func 26) #[] #[], .func (.func 27) #[] #[], .func (.func 28) #[] #[], .func (.func 29) #[] #[], .func (.func 30) #[] #[], .func (.func 26) #[] #[]] 57)) #[.string src, .int .i64 0, .slice none 0 0] 60
      rw [World.size_alloc, World.size_alloc, World.size_alloc, World.size_alloc] at this
      exact this)
    have HB5 : Hid (Below w.heap.size w w5) := Lib.hid (by
      rw [← hw5]
      exact (((((Below.refl _ _).alloc (Nat.le_refl _) _).alloc (by simp) _).alloc (by simp; omega) _).alloc (by simp; omega) _).alloc (by simp; omega) _)
    rw [hw5, hSe]
    have hS1 : w.heap.size + 4 ≤ S := by omega
    have HSE : Hid (w.heap.size + 4 = S) := Lib.hid hSe
    have HL5 : Hid (LaidW w5) := Lib.hid (hL.below HB5.out (by have := hL.size; omega))
    clear hw5 hSe hL
    have hS5 := HSC.out.lt
    go_loopw [] (fun wr => ∃ (at_ : Nat) (ts : List Tok), Scan S src wr at_ ts ∧ LexInv src.data.toList at_ ts ∧ Below S w5 wr) (fun wr => src.size - (intOf ((wr.cell? ⟨S, 1, none⟩).getD undef)).toNat)
    case atStart => exact ⟨0, [], HSC.out, inv_start _, Below.refl _ _⟩
    case round =>
      obtain ⟨at_, ts, hsc, hinv, hbr⟩ := hrel
      have HSR := Lib.hid hsc
      have HIN := Lib.hid hinv
      have HBR := Lib.hid hbr
      have hltr := hsc.lt
      obtain ⟨k0, k1⟩ := hsc.cells
      have hat : at_ ≤ src.size := by have := hinv.2.1; omega
      have hts : ts.length ≤ 65536 := by have := hinv.2.2.1; omega
      clear hsc hinv hbr
      by_cases hlt : at_ < src.size
      · have HG := Lib.hid (data_get hlt)
        have HDR := Lib.hid (drop_at (data_get hlt))
        have HERR0 : Hid (stepL (src.data.toList.drop at_) = none → lexT src.data.toList = [] ∧ lexP src.data.toList = at_ ∧ lexE src.data.toList = 30) := Lib.hid fun hn => by
          have h2 := inv_bad HIN.out (by omega) hn
          have h3 : ¬ src.data.toList.length > 65536 := by omega
          exact ⟨by unfold lexT; rw [if_neg h3, if_neg (by rw [h2]; simp)], by unfold lexP; rw [if_neg h3, h2], by unfold lexE; rw [if_neg h3, if_neg (by rw [h2]; simp)]⟩
        rcases cls_step src[at_] (src.data.toList.drop (at_ + 1)) with ⟨e, f⟩ | ⟨e, f⟩ | ⟨e, f, g⟩ | ⟨e, f, g⟩ | ⟨e, f⟩
        · have HSP := Lib.hid f
          clear f
          have tk := (HT5.out.below HBR.out (by omega)).cell 1
          simp at tk
          have HIN2 := Lib.hid (inv_spc HIN.out)
          have HRL : Hid (runL src at_ [1] = (src.data.toList.drop at_).takeWhile isSpc) := Lib.hid (runL_eq cls_spcP)
          go_wp2_with (go_at_call 31; refine (class_any _ _).mono ?_; rintro e w' ⟨rfl, rfl⟩)
          refine (space_any S at_ src ts _ HSR.out hat (by omega)).mono ?_
          rintro e7 w7 ⟨rfl, hsn, hbn⟩
          rw [HRL.out] at hsn
          have HSN := Lib.hid hsn
          have HBN := Lib.hid (HBR.out.trans hbn)
          clear hsn hbn
          have HPOS : Hid (1 ≤ ((src.data.toList.drop at_).takeWhile isSpc).length) := Lib.hid (by rw [HDR.out, List.takeWhile_cons, if_pos (HSP.out)]; simp)
          go_wp2_with fail
          go_roundw
          case rel => exact ⟨_, _, HSN.out, HIN2.out, HBN.out⟩
          case measure =>
            have k9 := HSN.out.cells.2
            have hp9 := HPOS.out
            simp only [k1, k9, Option.getD_some, intOf]
            omega
        · have tk := (HT5.out.below HBR.out (by omega)).cell 2
          simp at tk
          have HRL : Hid (runL src at_ [2, 3, 5] = (src.data.toList.drop at_).takeWhile isPart) := Lib.hid (runL_eq runP_part)
          rw [← HDR.out] at f
          have HF := Lib.hid f
          clear f
          go_wp2_with (go_at_call 31; refine (class_any _ _).mono ?_; rintro e w' ⟨rfl, rfl⟩)
          refine (nameS_any S at_ src ts _ HSR.out hat (by omega) (by omega)).mono ?_
          rintro e7 w7 hpost
          rw [HRL.out] at hpost
          obtain ⟨x, hx⟩ : ∃ x, (src.data.toList.drop at_).takeWhile isPart = x := ⟨_, rfl⟩
          rw [hx] at hpost HF
          clear hx
          have HP := Lib.hid hpost
          clear hpost
          cases hb : nameB x with
          | true =>
            rw [hb, if_pos rfl] at HF
            obtain ⟨rfl, hsn⟩ := HP.out.1 (by simp [validB, hb])
            have HSN := Lib.hid hsn
            have HBN := Lib.hid (HBR.out.trans HP.out.2.2)
            have HIN2 := Lib.hid (inv_tok HIN.out HF.out)
            have HPOS := Lib.hid (step_pos HF.out).1
            clear hsn hb
            go_wp2_with fail
            go_roundw
            case rel => exact ⟨_, _, HSN.out, HIN2.out, HBN.out⟩
            case measure =>
              have k9 := HSN.out.cells.2
              have hp9 := HPOS.out
              simp only [k1, k9, Option.getD_some, intOf]
              omega
          | false =>
            rw [hb, if_neg (by simp)] at HF
            obtain rfl := HP.out.2.1 (by simp [validB, hb])
            have HERR := Lib.hid (HERR0.out HF.out)
            have HBP := Lib.hid (HBR.out.trans HP.out.2.2)
            clear hb
            go_wp2
            refine leaves_cons (f := 25) (args := #[.pointer (some ⟨w.heap.size, 0, none⟩), .pointer (some ⟨w.heap.size + 1, 0, none⟩), .pointer (some ⟨w.heap.size + 1 + 1, 0, none⟩)]) (by simp) (by simp [go_sem]) ?_
            refine (catch_panic w.heap.size w.heap.size (w.heap.size + 1) (w.heap.size + 1 + 1) at_ _ _ _ _ (HC2.out.below HBP.out (by omega)) (HC3.out.below HBP.out (by omega)) (HC4.out.below HBP.out (by omega)) (by omega) (by omega) (by omega) (by omega) (by omega) (by omega)).mono ?_
            rintro e u' w9 ⟨rfl, rfl, A0, A1, A2, AB⟩
            have q0 := A0.cell
            have q1 := A1.cell
            have q2 := A2.cell
            obtain ⟨p1, p2, p3⟩ := HERR.out
            refine ⟨.tuple #[.slice none 0 0, .int .i64 (at_ : Int), .int .i64 30], ?_, ?_⟩
            focus simp [results, Tryz.results13, go_sem, q0, q1, q2]
            exact ⟨.slice none 0 0, by rw [p2, p3], by rw [p1]; exact OwnToks.nil _ _, HB5.out.trans ((HBP.out.mono (by omega)).trans AB)⟩
        · have tk := (HT5.out.below HBR.out (by omega)).cell 3
          simp at tk
          have HRL : Hid (runL src at_ [3] = (src.data.toList.drop at_).takeWhile isDig) := Lib.hid (runL_eq cls_digP)
          have HNE : Hid (runL src at_ [3] ≠ []) := Lib.hid (by rw [HRL.out, HDR.out, List.takeWhile_cons, if_pos f]; simp)
          rw [← HDR.out] at g
          have HF := Lib.hid g
          clear f g
          go_wp2_with (go_at_call 31; refine (class_any _ _).mono ?_; rintro e w' ⟨rfl, rfl⟩)
          refine (number_any S at_ src ts _ (HL5.out.below HBR.out (by omega)) (by omega) HSR.out hat (by omega) (by omega) HNE.out).mono ?_
          rintro e7 w7 hpost
          rw [HRL.out] at hpost
          obtain ⟨x, hx⟩ : ∃ x, (src.data.toList.drop at_).takeWhile isDig = x := ⟨_, rfl⟩
          rw [hx] at hpost HF
          clear hx
          have HP := Lib.hid hpost
          clear hpost
          cases hb : numB x with
          | true =>
            rw [hb, if_pos rfl] at HF
            obtain ⟨rfl, hsn⟩ := HP.out.1 hb
            have HSN := Lib.hid hsn
            have HBN := Lib.hid (HBR.out.trans HP.out.2.2)
            have HIN2 := Lib.hid (inv_tok HIN.out HF.out)
            have HPOS := Lib.hid (step_pos HF.out).1
            clear hsn hb
            go_wp2_with fail
            go_roundw
            case rel => exact ⟨_, _, HSN.out, HIN2.out, HBN.out⟩
            case measure =>
              have k9 := HSN.out.cells.2
              have hp9 := HPOS.out
              simp only [k1, k9, Option.getD_some, intOf]
              omega
          | false =>
            rw [hb, if_neg (by simp)] at HF
            obtain rfl := HP.out.2.1 hb
            have HERR := Lib.hid (HERR0.out HF.out)
            have HBP := Lib.hid (HBR.out.trans HP.out.2.2)
            clear hb
            go_wp2
            refine leaves_cons (f := 25) (args := #[.pointer (some ⟨w.heap.size, 0, none⟩), .pointer (some ⟨w.heap.size + 1, 0, none⟩), .pointer (some ⟨w.heap.size + 1 + 1, 0, none⟩)]) (by simp) (by simp [go_sem]) ?_
            refine (catch_panic w.heap.size w.heap.size (w.heap.size + 1) (w.heap.size + 1 + 1) at_ _ _ _ _ (HC2.out.below HBP.out (by omega)) (HC3.out.below HBP.out (by omega)) (HC4.out.below HBP.out (by omega)) (by omega) (by omega) (by omega) (by omega) (by omega) (by omega)).mono ?_
            rintro e u' w9 ⟨rfl, rfl, A0, A1, A2, AB⟩
            have q0 := A0.cell
            have q1 := A1.cell
            have q2 := A2.cell
            obtain ⟨p1, p2, p3⟩ := HERR.out
            refine ⟨.tuple #[.slice none 0 0, .int .i64 (at_ : Int), .int .i64 30], ?_, ?_⟩
            focus simp [results, Tryz.results13, go_sem, q0, q1, q2]
            exact ⟨.slice none 0 0, by rw [p2, p3], by rw [p1]; exact OwnToks.nil _ _, HB5.out.trans ((HBP.out.mono (by omega)).trans AB)⟩
        · have tk := (HT5.out.below HBR.out (by omega)).cell 4
          simp at tk
          have HPF : Hid (Go.Lib.hasPrefix (src.extract at_ src.size).data.toList [47, 47] = (src[at_] == 47 && (src.data.toList.drop (at_ + 1)).head? == some 47)) := Lib.hid (by
            rw [extract_list, List.take_of_length_le (by simp only [List.length_drop, hlen]; omega), HDR.out, com_prefix])
          have HSG := Lib.hid f
          rw [← HDR.out] at g
          have HF := Lib.hid g
          clear f g
          cases hb : (src[at_] == 47 && (src.data.toList.drop (at_ + 1)).head? == some 47) with
          | true =>
            rw [hb, if_pos rfl] at HF
            rw [hb] at HPF
            clear hb
            go_wp2_with (go_at_call 31; refine (class_any _ _).mono ?_; rintro e w' ⟨rfl, rfl⟩)
            refine (sign_com S at_ src ts _ HSR.out hat (by omega) HPF.out).mono ?_
            rintro e7 w7 ⟨rfl, hsn, hbn⟩
            have HSN := Lib.hid hsn
            have HBN := Lib.hid (HBR.out.trans hbn)
            have HIN2 := Lib.hid (inv_skip HIN.out HF.out)
            have HPOS := Lib.hid (step_pos HF.out).1
            clear hsn hbn
            go_wp2_with fail
            go_roundw
            case rel => exact ⟨_, _, HSN.out, HIN2.out, HBN.out⟩
            case measure =>
              have k9 := HSN.out.cells.2
              have hp9 := HPOS.out
              simp only [k1, k9, Option.getD_some, intOf]
              omega
          | false =>
            rw [hb, if_neg (by simp)] at HF
            rw [hb] at HPF
            clear hb
            go_wp2_with (go_at_call 31; refine (class_any _ _).mono ?_; rintro e w' ⟨rfl, rfl⟩)
            refine (sign_tok S at_ src ts _ src[at_] HSR.out hlt HG.out (by omega) (by omega) HPF.out).mono ?_
            rintro e7 w7 hpost
            have HP := Lib.hid hpost
            clear hpost
            obtain ⟨rfl, hsn⟩ := HP.out.1 (by simp [validB, HSG.out])
            have HSN := Lib.hid hsn
            have HBN := Lib.hid (HBR.out.trans HP.out.2.2)
            have HIN2 := Lib.hid (inv_tok HIN.out HF.out)
            have HPOS := Lib.hid (step_pos HF.out).1
            clear hsn
            go_wp2_with fail
            go_roundw
            case rel => exact ⟨_, _, HSN.out, HIN2.out, HBN.out⟩
            case measure =>
              have k9 := HSN.out.cells.2
              have hp9 := HPOS.out
              simp only [k1, k9, Option.getD_some, intOf]
              omega
        · have HERR := Lib.hid (HERR0.out (by rw [HDR.out]; exact f))
          clear f
          have t0 := (HT5.out.below HBR.out (by omega)).cell 0
          have t5 := (HT5.out.below HBR.out (by omega)).cell 5
          simp at t0 t5
          rcases e with e | e
          all_goals
            go_wp2_with (go_at_call 31; refine (class_any _ _).mono ?_; rintro e w' ⟨rfl, rfl⟩)
            refine (wrong_any S at_ src ts _ HSR.out).mono ?_
            rintro e7 w7 ⟨rfl, rfl⟩
            have HBP := Lib.hid HBR.out
            go_wp2
            refine leaves_cons (f := 25) (args := #[.pointer (some ⟨w.heap.size, 0, none⟩), .pointer (some ⟨w.heap.size + 1, 0, none⟩), .pointer (some ⟨w.heap.size + 1 + 1, 0, none⟩)]) (by simp) (by simp [go_sem]) ?_
            refine (catch_panic w.heap.size w.heap.size (w.heap.size + 1) (w.heap.size + 1 + 1) at_ _ _ _ _ (HC2.out.below HBP.out (by omega)) (HC3.out.below HBP.out (by omega)) (HC4.out.below HBP.out (by omega)) (by omega) (by omega) (by omega) (by omega) (by omega) (by omega)).mono ?_
            rintro e u' w9 ⟨rfl, rfl, A0, A1, A2, AB⟩
            have q0 := A0.cell
            have q1 := A1.cell
            have q2 := A2.cell
            obtain ⟨p1, p2, p3⟩ := HERR.out
            refine ⟨.tuple #[.slice none 0 0, .int .i64 (at_ : Int), .int .i64 30], ?_, ?_⟩
            focus simp [results, Tryz.results13, go_sem, q0, q1, q2]
            exact ⟨.slice none 0 0, by rw [p2, p3], by rw [p1]; exact OwnToks.nil _ _, HB5.out.trans ((HBP.out.mono (by omega)).trans AB)⟩
      · have HFIN := Lib.hid (inv_end HIN.out (by omega : src.data.toList.length ≤ at_))
        have HEND : Hid (lexT src.data.toList = ts ∧ lexP src.data.toList = 0 ∧ lexE src.data.toList = 0) := Lib.hid (by
          have h2 := HFIN.out
          have h3 : ¬ src.data.toList.length > 65536 := by omega
          exact ⟨by unfold lexT; rw [if_neg h3, h2]; rfl, by unfold lexP; rw [if_neg h3, h2], by unfold lexE; rw [if_neg h3, h2]; rfl⟩)
        obtain ⟨vl, hcl, hol⟩ := HSR.out
        obtain ⟨al, cl, rfl⟩ := hol.form
        have k2 := hcl.cell 2
        simp at k2
        have HOL := Lib.hid hol
        have HD2 := Lib.hid (HC2.out.below HBR.out (by omega))
        have HD3 := Lib.hid (HC3.out.below HBR.out (by omega))
        have HD4 := Lib.hid (HC4.out.below HBR.out (by omega))
        have u2 := HD2.out.cell
        have u3 := HD3.out.cell
        have u4 := HD4.out.cell
        have f2 := HD2.out.free
        have f3 := HD3.out.free
        have f4 := HD4.out.free
        clear hcl hol
        go_wp2
        refine leaves_cons (f := 25) (args := #[.pointer (some ⟨w.heap.size, 0, none⟩), .pointer (some ⟨w.heap.size + 1, 0, none⟩), .pointer (some ⟨w.heap.size + 1 + 1, 0, none⟩)]) (by simp) (by simp [go_sem]) ?_
        refine (catch_idle w.heap.size (w.heap.size + 1) (w.heap.size + 1 + 1) _).mono ?_
        rintro e u' w9 ⟨rfl, rfl, rfl⟩
        have A0 := (((HD2.out.set (.slice al ts.length cl)).other (by omega : w.heap.size ≠ w.heap.size + 1) (.int .i64 0)).other (by omega : w.heap.size ≠ w.heap.size + 1 + 1) (.int .i64 0)).cell
        have A1 := (((HD3.out.other (by omega : w.heap.size + 1 ≠ w.heap.size) (.slice al ts.length cl)).set (.int .i64 0)).other (by omega : w.heap.size + 1 ≠ w.heap.size + 1 + 1) (.int .i64 0)).cell
        have A2 := (((HD4.out.other (by omega : w.heap.size + 1 + 1 ≠ w.heap.size) (.slice al ts.length cl)).other (by omega : w.heap.size + 1 + 1 ≠ w.heap.size + 1) (.int .i64 0)).set (.int .i64 0)).cell
        obtain ⟨p1, p2, p3⟩ := HEND.out
        refine ⟨.tuple #[.slice al ts.length cl, .int .i64 0, .int .i64 0], ?_, ?_⟩
        focus simp [results, Tryz.results13, go_sem, A0, A1, A2]
        refine ⟨.slice al ts.length cl, by rw [p2, p3], ?_, ?_⟩
        focus
          rw [p1]
          have hb9 : ∀ k, Value.ownBlock (.slice al ts.length cl) = some k → S + 1 ≤ k := fun k hk => (HOL.out.lt k hk).1
          exact (((HOL.out.base (by omega : w.heap.size ≤ S + 1)).set (fun e => by have := hb9 _ e; omega) 0 _).set (fun e => by have := hb9 _ e; omega) 0 _).set (fun e => by have := hb9 _ e; omega) 0 _
        have hall : Below w.heap.size w wr := HB5.out.trans (HBR.out.mono (by omega))
        exact ((hall.setCell (p := ⟨w.heap.size, 0, none⟩) (Nat.le_refl _) _).setCell (p := ⟨w.heap.size + 1, 0, none⟩) (Nat.le_succ _) _).setCell (p := ⟨w.heap.size + 1 + 1, 0, none⟩) (by show w.heap.size ≤ w.heap.size + 1 + 1; omega) _
end Go.Proofs.YtfnmidddgjlipaaGreatDoor
