/-
  The walk of flows.View.
-/
import Derived.Test.YtndcbnnbgedgcaaF25v
import Derived.Test.YtndcbnnbgedgcaaS31v
import Derived.Test.YtndcbnnbgedgcaaApp
import Derived.Test.YtndcbnnbgedgcaaP31o
import Derived.Test.YtndcbnnbgedgcaaF25c
set_option linter.unusedVariables false
set_option linter.unusedSimpArgs false
namespace Go.Proofs.Ytndcbnnbgedgcaa
open Go.RowKit

def viewOk (f : Flow) (lines : List (List Int)) (c : List Int) : Bool :=
  knownB f && (decide (lines.length = f.lots.length) && (!anyRow lines (fun l => !lineB l) lines.length && ((diffB c && allB c officeB) && srtB c)))
def viewE (f : Flow) (lines : List (List Int)) (c : List Int) : Int := if checkE f ≠ 0 then checkE f else if viewOk f lines c then 0 else 1
def viewR (f : Flow) (lines : List (List Int)) (c : List Int) : Flow := if viewE f lines c = 0 then viewF f lines c else ⟨0, []⟩

/-- what holds at the head of View's loop -/
def ViewRel (w w9 : World) (f : Flow) (lines : List (List Int)) (c : List Int) (vy vi : Value) (wr : World) : Prop :=
  ∃ (k : Nat) (vL : Value), k ≤ f.lots.length ∧ vi = .int .i64 k ∧ CellsN wr (w.heap.size + 1 + 1) #[.int .i64 f.senders, vL] ∧ OwnLots w.heap.size wr vL (viewTo f lines c k) ∧
    (∀ j, vL.ownBlock = some j → w9.heap.size ≤ j) ∧ Cell1 wr (w.heap.size + 1) vy ∧ Below w.heap.size w wr ∧ w9.heap.size ≤ wr.heap.size
theorem OwnLots.form' {C : Nat} {w : World} {v : Value} {ls : List Lot} (h : OwnLots C w v ls) : ∃ a n c, v = .slice a n c := by
  obtain ⟨a, c, e⟩ := h.form
  exact ⟨a, _, c, e⟩
theorem OwnLots.rows {C : Nat} {w : World} {v : Value} {ls : List Lot} (h : OwnLots C w v ls) : ∀ k, v.ownBlock = some k → C ≤ k := by
  obtain ⟨vals, h1, _⟩ := h
  exact fun k hk => (h1.lt k hk).1
theorem OwnLots.rowlt {C : Nat} {w : World} {v : Value} {ls : List Lot} (h : OwnLots C w v ls) : ∀ k, v.ownBlock = some k → k < w.heap.size := by
  obtain ⟨vals, h1, _⟩ := h
  exact fun k hk => (h1.lt k hk).2
theorem stranger_ok (B : Nat) (w : World) (v : Value) (zs : List Int) (c : Nat) (hv : IsInts B w v zs) (hB : B ≤ w.heap.size) (hc : Cell1 w c v) :
    OkFn2 Try.prog 51 #[] #[.pointer (some ⟨c, 0, none⟩)] w (fun _ => True) (fun n => !hasB zs n) := by
  refine ⟨fun args W => by simp [go_sem], fun W x hW _ => ?_⟩
  refine (stranger_any B W v zs x c (hv.below hW hB) (hc.ext hW).cell).mono ?_
  rintro e w' ⟨rfl, rfl⟩
  exact ⟨rfl, Below.refl _ _⟩
theorem IsInts.nil0 (B : Nat) (w : World) : IsInts B w (Value.slice Option.none 0 0) [] := ⟨0, 0, 0, ⟨Option.none, rfl, by simp, by omega, Or.inr rfl⟩, by simp, by simp, fun j hj => by simp at hj⟩
theorem run_store_func (P : Program) (w : World) (a : Addr) (m : Mode) (g : Fn) (x y : Array Value) : (store a (.func g x y) m).run P w = stored P w a (.func g x y) m := run_store P w a _ m rfl
attribute [local go_sem] run_store_func
theorem islots_nil (B : Nat) (w : World) : IsLots B w (.slice none 0 0) [] := ⟨0, 0, 0, ⟨none, rfl, by simp, by omega, Or.inr rfl⟩, by simp, fun j hj => by simp at hj⟩

set_option maxHeartbeats 4000000 in
set_option maxRecDepth 100000 in
/-- flows.View -/
theorem view_any (B : Nat) (w : World) (vs vl vm vc : Value) (f : Flow) (lines : List (List Int)) (c : List Int) (hf : IsFlow B w vs vl f) (hm : IsMat B w vm lines) (hc : IsInts B w vc c) (hB : B ≤ w.heap.size) :
    Calls Try.prog 24 #[.agg #[vs, vl], vm, vc] w fun e w' => ∃ vl', e = .returned (.tuple #[.agg #[.int .i64 (viewR f lines c).senders, vl'], .int .i64 (viewE f lines c)]) ∧ IsLots w'.heap.size w' vl' (viewR f lines c).lots ∧ Below w.heap.size w w' := by
  have HF := Lib.hid hf
  have HM := Lib.hid hm
  have HC := Lib.hid hc
  obtain ⟨rfl, ⟨hs1, hs2⟩, hl⟩ := hf
  obtain ⟨b, off, cap, ⟨a, rfl, hcap, hmax, ha⟩, hlen, hcl⟩ := hl
  obtain ⟨b1, off1, cap1, ⟨a1, rfl, hcap1, hmax1, ha1⟩, hlen1, hcm⟩ := hm
  obtain ⟨b2, off2, cap2, ⟨a2, rfl, hcap2, hmax2, ha2⟩, hlen2, hz2, hcc⟩ := hc
  have HCL := Lib.hid hcl
  have HCM := Lib.hid hcm
  have HA := Lib.hid ha
  have HA1 := Lib.hid ha1
  clear hcl hcm hcc hz2 ha ha1 ha2
  have HCK := Lib.hid (fun o1 o2 o3 => fcheck_any B (((w.alloc o1).alloc o2).alloc o3) _ _ f (HF.out.below ((((Below.refl B w).alloc hB o1).alloc (by simp; omega) o2).alloc (by simp; omega) o3) (Nat.le_refl _)) (by simp; omega))
  obtain ⟨ER, hER⟩ : ∃ e, viewE f lines c = e := ⟨_, rfl⟩
  obtain ⟨RR, hRR⟩ : ∃ r, viewR f lines c = r := ⟨_, rfl⟩
  have HER := Lib.hid hER
  have HRR := Lib.hid hRR
  rw [hER, hRR]
  clear hER hRR
  go_enter Try.func24, Try.ntmps24
  go_wp2_with fail
  refine (HCK.out _ _ _).mono ?_
  rintro e w5 ⟨rfl, hb5⟩
  have HX5 := Lib.hid ((((Box.new w #[.int .i64 f.senders, .slice a f.lots.length cap] 24).alloc (.cells #[.slice a2 c.length cap2] 25)).alloc (.cells #[.int .i64 0, .slice none 0 0] 24)).ext hb5)
  have HY5 := Lib.hid (((Cell1.new (w.alloc (.cells #[.int .i64 f.senders, .slice a f.lots.length cap] 24)) (.slice a2 c.length cap2) 25).alloc (.cells #[.int .i64 0, .slice none 0 0] 24)).ext hb5)
  have HL5 := Lib.hid ((CellsN.new ((w.alloc (.cells #[.int .i64 f.senders, .slice a f.lots.length cap] 24)).alloc (.cells #[.slice a2 c.length cap2] 25)) #[.int .i64 0, .slice none 0 0] 24).ext hb5)
  have HW5 : Hid (Below w.heap.size w w5) := Lib.hid (((((Below.refl _ w).alloc (Nat.le_refl _) _).alloc (by simp) _).alloc (by simp; omega) _).trans (hb5.mono (by simp; omega)))
  simp only [World.size_alloc] at HY5 HL5
  have HZ5 : Hid (w.heap.size + 2 < w5.heap.size) := Lib.hid HL5.out.lt
  clear hb5
  by_cases h1 : checkE f = 0
  · have h1' : (checkE f != 0) = false := by simpa using h1
    have H1 := Lib.hid h1
    clear h1
    obtain ⟨z5, r5⟩ := HX5.out
    have HVE : Hid (ER = if viewOk f lines c then 0 else 1) := Lib.hid (by rw [← HER.out]; unfold viewE; rw [if_neg (by simp [H1.out])])
    go_wp2_with fail
    refine (known_any B (w5.alloc _) _ _ f (HF.out.below (HW5.out.alloc HW5.out.size _) hB) (by have := HW5.out.size; simp; omega)).mono ?_
    rintro e w6 ⟨rfl, hb6⟩
    have HX6 := Lib.hid ((HX5.out.alloc (.cells #[.func (.func 45) #[] #[]] 62)).ext hb6)
    have HY6 := Lib.hid ((HY5.out.alloc (.cells #[.func (.func 45) #[] #[]] 62)).ext hb6)
    have HL6 := Lib.hid ((HL5.out.alloc (.cells #[.func (.func 45) #[] #[]] 62)).ext hb6)
    have HN6 := Lib.hid ((Cell1.new w5 (.func (.func 45) #[] #[]) 62).ext hb6)
    have HW6 : Hid (Below w.heap.size w w6) := Lib.hid ((HW5.out.alloc HW5.out.size _).trans (hb6.mono (by have := HW5.out.size; simp; omega)))
    clear hb6 z5 r5
    cases hk : knownB f
    · have HE : Hid (ER = 1) := Lib.hid (by rw [HVE.out]; unfold viewOk; rw [hk]; rfl)
      have HR : Hid (RR = ⟨0, []⟩) := Lib.hid (by rw [← HRR.out]; unfold viewR; rw [HER.out, HE.out]; rfl)
      clear hk
      have c0 := HL6.out.cell 0
      have c1 := HL6.out.cell 1
      have f0 := HL6.out.free 0
      have f1 := HL6.out.free 1
      simp at c0 c1
      go_wp2
      have hN := (HL6.out.set 0 (.int .i64 0)).set 1 (.slice none 0 0)
      have n0 := hN.cell 0
      have n1 := hN.cell 1
      simp at n0 n1
      refine bodyPost_ret (v := .tuple #[.agg #[.int .i64 0, .slice none 0 0], .int .i64 1]) (by simp [results, Try.results24, go_sem, n0, n1]) rfl ⟨_, by rw [HR.out, HE.out], by rw [HR.out]; exact islots_nil _ _, (HW6.out.setCell (by show w.heap.size ≤ w.heap.size + 1 + 1; omega) _).setCell (by show w.heap.size ≤ w.heap.size + 1 + 1; omega) _⟩
    · have HK := Lib.hid hk
      have HV1 : Hid (viewOk f lines c = (decide (lines.length = f.lots.length) && (!anyRow lines (fun l => !lineB l) lines.length && ((diffB c && allB c officeB) && srtB c)))) := Lib.hid (by unfold viewOk; rw [hk]; rfl)
      clear hk
      obtain ⟨z6, r6⟩ := HX6.out
      by_cases hll : lines.length = f.lots.length
      · have hll' : ((lines.length : Int) != (f.lots.length : Int)) = false := by rw [hll]; simp
        have HV2 : Hid (viewOk f lines c = (!anyRow lines (fun l => !lineB l) lines.length && ((diffB c && allB c officeB) && srtB c))) := Lib.hid (by rw [HV1.out, decide_eq_true hll]; rfl)
        have HLL := Lib.hid hll
        clear hll
        have n6 := HN6.out.cell
        have y6 := HY6.out.cell
        go_wp2_with fail
        refine (containsrow_any B w6 _ lines w5.heap.size (HM.out.below HW6.out hB) (by have := HW6.out.size; omega) HN6.out.lt n6).mono ?_
        rintro e w7 ⟨rfl, hb7⟩
        have HX7 := Lib.hid (HX6.out.ext hb7)
        have HY7 := Lib.hid (HY6.out.ext hb7)
        have HL7 := Lib.hid (HL6.out.ext hb7)
        have HN7 := Lib.hid (HN6.out.ext hb7)
        have HW7 : Hid (Below w.heap.size w w7) := Lib.hid (HW6.out.trans (hb7.mono HW6.out.size))
        clear hb7 n6 y6 z6 r6
        cases hrw : anyRow lines (fun l => !lineB l) lines.length
        · have HV3 : Hid (viewOk f lines c = ((diffB c && allB c officeB) && srtB c)) := Lib.hid (by rw [HV2.out, hrw]; rfl)
          clear hrw
          have n7 := HN7.out.cell
          have y7 := HY7.out.cell
          go_wp2_with fail
          refine (fdifferent_any B w7 _ c 45 #[] officeB (HC.out.below HW7.out hB) (by have := HW7.out.size; omega) (office_ok w7)).mono ?_
          rintro e w8 ⟨rfl, hb8⟩
          have HX8 := Lib.hid (HX7.out.ext hb8)
          have HY8 := Lib.hid (HY7.out.ext hb8)
          have HL8 := Lib.hid (HL7.out.ext hb8)
          have HN8 := Lib.hid (HN7.out.ext hb8)
          have HW8 : Hid (Below w.heap.size w w8) := Lib.hid (HW7.out.trans (hb8.mono HW7.out.size))
          clear hb8 n7 y7
          cases hdf : (diffB c && allB c officeB)
          · have HE : Hid (ER = 1) := Lib.hid (by rw [HVE.out, HV3.out, hdf]; rfl)
            have HR : Hid (RR = ⟨0, []⟩) := Lib.hid (by rw [← HRR.out]; unfold viewR; rw [HER.out, HE.out]; rfl)
            clear hdf
            have c0 := HL8.out.cell 0
            have c1 := HL8.out.cell 1
            have f0 := HL8.out.free 0
            have f1 := HL8.out.free 1
            simp at c0 c1
            go_wp2
            have hN := (HL8.out.set 0 (.int .i64 0)).set 1 (.slice none 0 0)
            have n0 := hN.cell 0
            have n1 := hN.cell 1
            simp at n0 n1
            refine bodyPost_ret (v := .tuple #[.agg #[.int .i64 0, .slice none 0 0], .int .i64 1]) (by simp [results, Try.results24, go_sem, n0, n1]) rfl ⟨_, by rw [HR.out, HE.out], by rw [HR.out]; exact islots_nil _ _, (HW8.out.setCell (by show w.heap.size ≤ w.heap.size + 1 + 1; omega) _).setCell (by show w.heap.size ≤ w.heap.size + 1 + 1; omega) _⟩
          · have HV4 : Hid (viewOk f lines c = srtB c) := Lib.hid (by rw [HV3.out, hdf]; rfl)
            clear hdf
            have y8 := HY8.out.cell
            go_wp2_with fail
            refine (sorted_any B w8 _ c (HC.out.below HW8.out hB)).mono ?_
            rintro e w9 ⟨rfl, hd9⟩
            have hb9 := hd9.below w8.heap.size
            have HX9 := Lib.hid (HX8.out.ext hb9)
            have HY9 := Lib.hid (HY8.out.ext hb9)
            have HL9 := Lib.hid (HL8.out.ext hb9)
            have HW9 : Hid (Below w.heap.size w w9) := Lib.hid (HW8.out.trans (hb9.mono HW8.out.size))
            clear hb9 y8 hd9
            cases hsr : srtB c
            · have HE : Hid (ER = 1) := Lib.hid (by rw [HVE.out, HV4.out, hsr]; rfl)
              have HR : Hid (RR = ⟨0, []⟩) := Lib.hid (by rw [← HRR.out]; unfold viewR; rw [HER.out, HE.out]; rfl)
              clear hsr
              have c0 := HL9.out.cell 0
              have c1 := HL9.out.cell 1
              have f0 := HL9.out.free 0
              have f1 := HL9.out.free 1
              simp at c0 c1
              go_wp2
              have hN := (HL9.out.set 0 (.int .i64 0)).set 1 (.slice none 0 0)
              have n0 := hN.cell 0
              have n1 := hN.cell 1
              simp at n0 n1
              refine bodyPost_ret (v := .tuple #[.agg #[.int .i64 0, .slice none 0 0], .int .i64 1]) (by simp [results, Try.results24, go_sem, n0, n1]) rfl ⟨_, by rw [HR.out, HE.out], by rw [HR.out]; exact islots_nil _ _, (HW9.out.setCell (by show w.heap.size ≤ w.heap.size + 1 + 1; omega) _).setCell (by show w.heap.size ≤ w.heap.size + 1 + 1; omega) _⟩
            · have HE : Hid (ER = 0) := Lib.hid (by rw [HVE.out, HV4.out, hsr]; rfl)
              have HR : Hid (RR = viewF f lines c) := Lib.hid (by rw [← HRR.out]; unfold viewR; rw [HER.out, HE.out]; rfl)
              clear hsr
              obtain ⟨z9, r9⟩ := HX9.out
              have c0 := HL9.out.cell 0
              have c1 := HL9.out.cell 1
              have f0 := HL9.out.free 0
              have f1 := HL9.out.free 1
              simp at c0 c1
              have HZ9 : Hid (w.heap.size + 1 + 1 < w9.heap.size) := Lib.hid HL9.out.lt
              have HVR : Hid (ViewRel w w9 f lines c (.slice a2 c.length cap2) (.int .i64 (0 : Nat)) (w9.setCell ⟨w.heap.size + 1 + 1, 0, none⟩ (.int .i64 f.senders))) := Lib.hid (by
                refine ⟨0, .slice none 0 0, by omega, rfl, ?_, OwnLots.nil _ _, fun j hj => by simp [Value.ownBlock] at hj, HY9.out.grown (grown_setCell w9 ⟨w.heap.size + 1 + 1, 0, none⟩ (.int .i64 f.senders)) (by simp), HW9.out.setCell (by show w.heap.size ≤ w.heap.size + 1 + 1; omega) _, by simp [World.setCell]⟩
                have h := HL9.out.set 0 (.int .i64 f.senders)
                simpa using h)
              go_wp2
              clear z9 r9 c0 c1 f0 f1
              go_loopw [56] (fun vi wr => ViewRel w w9 f lines c (.slice a2 c.length cap2) vi wr) (fun vi _ => f.lots.length - (intOf vi).toNat)
              case atStart => exact HVR.out
              case round =>
                obtain ⟨k, vL, hk, rfl, hbt, hvL, hrw, hby, hbr, hsz⟩ := hrel
                have HBT := Lib.hid hbt
                have HVL0 := Lib.hid hvL
                have HRW := Lib.hid hrw
                have HBY := Lib.hid hby
                have HBR := Lib.hid hbr
                have HSZ := Lib.hid hsz
                clear hbt hvL hrw hby hbr hsz
                by_cases hlt : k < f.lots.length
                · have hlt1 : k < lines.length := by have := HLL.out; omega
                  obtain rfl : a = some ⟨b, off, none⟩ := by rcases HA.out with ha | ha; exact ha; omega
                  obtain rfl : a1 = some ⟨b1, off1, none⟩ := by rcases HA1.out with ha | ha; exact ha; omega
                  obtain ⟨vi, vk, vp, hc1, hc2, hc3, hlot⟩ := HCL.out k hlt
                  obtain ⟨vr, hcr, hrow⟩ := HCM.out k hlt1
                  have HROW := Lib.hid hrow
                  have HLOT0 := Lib.hid hlot
                  have e1 := (HBR.out.cell (p := ⟨b, off + k * 3, none⟩) (by have := hc1.1; show b < _; omega)).trans hc1.2
                  have e2 := (HBR.out.cell (p := ⟨b, off + k * 3 + 1, none⟩) (by have := hc1.1; show b < _; omega)).trans hc2.2
                  have e3 := (HBR.out.cell (p := ⟨b, off + k * 3 + 2, none⟩) (by have := hc1.1; show b < _; omega)).trans hc3.2
                  have e4 := (HBR.out.cell (p := ⟨b1, off1 + k, none⟩) (by have := hcr.1; show b1 < _; omega)).trans hcr.2
                  have hbl : b < wr.heap.size := by have := hc1.1; have := HBR.out.size; omega
                  have hbl1 : b1 < wr.heap.size := by have := hcr.1; have := HBR.out.size; omega
                  have HS : Hid (viewTo f lines c (k + 1) = viewTo f lines c k ++ [hideLot (strB (rowAt lines k) c) (lotAt f.lots k)]) := Lib.hid rfl
                  obtain ⟨dl, hdl⟩ : ∃ d, lotAt f.lots k = d := ⟨_, rfl⟩
                  rw [hdl] at HS HLOT0
                  obtain ⟨_, hvk, _⟩ := HLOT0.out
                  subst hvk
                  clear hc1 hc2 hc3 hlot hcr hrow hdl
                  cases hst : strB (rowAt lines k) c
                  all_goals
                    rw [hst] at HS
                    have HST : Hid (anyB (rowAt lines k) (fun n => !hasB c n) = _) := Lib.hid hst
                    clear hst
                    obtain ⟨bvi, ovi, cvi, ⟨avi, rfl, _⟩, _⟩ := HLOT0.out.1
                    obtain ⟨bvp, ovp, cvp, ⟨avp, rfl, _⟩, _⟩ := HLOT0.out.2.2
                    go_wp2_with fail
                    refine (containsf_any B (wr.alloc _) vr (rowAt lines k) 51 #[] #[.pointer (some ⟨w.heap.size + 1, 0, none⟩)] (fun _ => True) (fun n => !hasB c n) (HROW.out.below (HBR.out.alloc HBR.out.size _) hB) (by have := HBR.out.size; simp; omega) (stranger_ok B (wr.alloc _) _ c (w.heap.size + 1) (HC.out.below (HBR.out.alloc HBR.out.size _) hB) (by have := HBR.out.size; simp; omega) (HBY.out.alloc _)) (fun _ _ => trivial)).mono ?_
                    rintro e w6' ⟨rfl, hb6⟩
                    rw [HST.out]
                    have HB6 : Hid (Below w.heap.size w w6') := Lib.hid ((HBR.out.alloc HBR.out.size _).trans (hb6.mono (by have := HBR.out.size; simp; omega)))
                    have HL6' := Lib.hid ((HBT.out.alloc _).ext hb6)
                    have HY6' := Lib.hid ((HBY.out.alloc _).ext hb6)
                    have HC6 := Lib.hid ((CellsN.new wr #[.slice avi dl.ins.length cvi, .bool dl.known, .slice avp dl.perm.length cvp] 45).ext hb6)
                    have HO6 := Lib.hid ((HVL0.out.below (box_below' wr _) HBR.out.size).below hb6 (by have := HBR.out.size; simp; omega))
                    have HLT6 := Lib.hid ((HLOT0.out.below HB6.out hB).mono hB)
                    have HZ6 : Hid (w9.heap.size ≤ w6'.heap.size) := Lib.hid (by have := HSZ.out; have := hb6.size; simp at this; omega)
                    have HZ7 : Hid (wr.heap.size < w6'.heap.size) := Lib.hid (by have := hb6.size; simp at this; omega)
                    have HZ8 : Hid (w9.heap.size ≤ wr.heap.size) := HSZ
                    clear hb6
                  · have HZW : Hid (w9.heap.size ≤ w6'.heap.size) := HZ6
                    have d0 := HC6.out.cell 0
                    have d1 := HC6.out.cell 1
                    have d2 := HC6.out.cell 2
                    have t1 := HL6'.out.cell 1
                    have g1 := HL6'.out.free 1
                    simp at d0 d1 d2 t1
                    have HSRC : Hid (SrcLots w.heap.size (w6'.alloc (.cells #[.slice avi dl.ins.length cvi, .bool dl.known, .slice avp dl.perm.length cvp] 45)) (.slice (some ⟨w6'.heap.size, 0, none⟩) 1 1) [hideLot false dl]) := Lib.hid (
                      srcLots_one ((CellsN.new w6' #[.slice avi dl.ins.length cvi, .bool dl.known, .slice avp dl.perm.length cvp] 45).cell 0) ((CellsN.new w6' #[.slice avi dl.ins.length cvi, .bool dl.known, .slice avp dl.perm.length cvp] 45).cell 1) ((CellsN.new w6' #[.slice avi dl.ins.length cvi, .bool dl.known, .slice avp dl.perm.length cvp] 45).cell 2) (HLT6.out.below (box_below' w6' _) HB6.out.size))
                    have HVL := Lib.hid (viewTo_len f lines c k)
                    have HNE : Hid (∀ j, j < w9.heap.size → some j ≠ vL.ownBlock) := Lib.hid fun j hj e => by have := HRW.out _ e.symm; omega
                    go_wp2_with (at_builtin; refine append_lotsA rfl (.tmp 70) (.tmp 72) rfl (C := w.heap.size) (v := vL) (xs := viewTo f lines c k) (ys := [hideLot false dl]) rfl (HO6.out.below (box_below' w6' _) HB6.out.size) rfl HSRC.out (by rw [HVL.out]; simp; omega) (by have := HB6.out.size; simp; omega) ?_; intro v8 w8 ho8 hg8 hat8; have HO8 := Lib.hid ho8; have HG8 := Lib.hid hg8; have HAT8 := Lib.hid hat8; obtain ⟨a8, n8, c8, rfl⟩ := ho8.form'; have q1 : w8.cell? ⟨w.heap.size + 1 + 1, 1, none⟩ = some vL := ((HG8.out.cell_far ⟨w.heap.size + 1 + 1, 1, none⟩ (by have := HL6'.out.lt; simp; omega) (HNE.out _ HZ9.out)).trans ((box_below' w6' _).cell (p := ⟨w.heap.size + 1 + 1, 1, none⟩) HL6'.out.lt)).trans t1; have q2 : w8.frozen? ⟨w.heap.size + 1 + 1, 1, none⟩ = false := ((HG8.out.frozen_far ⟨w.heap.size + 1 + 1, 1, none⟩ (by have := HL6'.out.lt; simp; omega) (HNE.out _ HZ9.out)).trans ((box_below' w6' _).frozen (p := ⟨w.heap.size + 1 + 1, 1, none⟩) HL6'.out.lt)).trans g1; clear ho8 hg8 hat8)
                    go_roundw
                    case rel =>
                      have hne : ∀ j, j < w9.heap.size → some j ≠ vL.ownBlock := fun j hj e => by have := HRW.out _ e.symm; omega
                      have hz := HZ6.out
                      have hz9 := HZ9.out
                      have hz7 := HZW.out
                      refine ⟨k + 1, .slice a8 n8 c8, by omega, by go_num, ?_, ?_, ?_, ?_, ?_, ?_⟩
                      · have h := ((HL6'.out.alloc _).grown HG8.out (hne _ (by omega))).set 1 (.slice a8 n8 c8)
                        simpa using h
                      · rw [HS.out]
                        refine HO8.out.kept (grown_setCell w8 ⟨w.heap.size + 1 + 1, 1, none⟩ (.slice a8 n8 c8)) (fun j hj => by simp at hj; omega) (by have := HB6.out.size; have := HG8.out.size; simp at this; omega) (Or.inr fun e => ?_)
                        rcases HAT8.out with h | h
                        · rw [h] at e; exact hne (w.heap.size + 1 + 1) (by omega) e.symm
                        · rw [h] at e; simp at e; omega
                      · intro j hj
                        rcases HAT8.out with h | h
                        · exact HRW.out j (by rw [← h]; exact hj)
                        · rw [h] at hj; simp at hj; omega
                      · exact ((HY6'.out.alloc _).grown HG8.out (hne _ (by omega))).grown (grown_setCell w8 ⟨w.heap.size + 1 + 1, 1, none⟩ (.slice a8 n8 c8)) (by simp)
                      · exact ((HB6.out.alloc HB6.out.size _).grown HG8.out (by have := HB6.out.size; simp; omega) (fun j hj => by have := HRW.out j hj; omega)).setCell (by show w.heap.size ≤ w.heap.size + 1 + 1; omega) _
                      · have := HG8.out.size; simp [World.setCell] at this ⊢; omega
                    case measure => simp [intOf]; omega
                  · have u1 := HC6.out.cell 1
                    have u2 := HC6.out.cell 2
                    have u3 := HC6.out.free 1
                    have u4 := HC6.out.free 2
                    simp at u1 u2
                    have t0 := HL6'.out.cell 1
                    have hcs := (HC6.out.set 1 (.bool false)).set 2 (.slice none 0 0)
                    have hg7 := grown_setCell w6' ⟨wr.heap.size, 1, none⟩ (.bool false)
                    have hg7' := grown_setCell (w6'.setCell ⟨wr.heap.size, 1, none⟩ (.bool false)) ⟨wr.heap.size, 2, none⟩ (.slice none 0 0)
                    obtain ⟨w7, hw7⟩ : ∃ W, (w6'.setCell ⟨wr.heap.size, 1, none⟩ (.bool false)).setCell ⟨wr.heap.size, 2, none⟩ (.slice none 0 0) = W := ⟨_, rfl⟩
                    rw [hw7] at hcs hg7'
                    have hg67 : w6'.grownBy w7 (some wr.heap.size) := grown_trans hg7 hg7'
                    have HG67 := Lib.hid hg67
                    have HC7 : Hid (CellsN w7 wr.heap.size #[.slice avi dl.ins.length cvi, .bool false, .slice none 0 0]) := Lib.hid (by simpa using hcs)
                    have hsz0 : w.heap.size + 1 + 1 < wr.heap.size := by have := HSZ.out; have := HZ9.out; omega
                    have HL7' := Lib.hid (HL6'.out.grown hg67 (by simp; omega))
                    have HY7' := Lib.hid (HY6'.out.grown hg67 (by simp; omega))
                    have HB7 : Hid (Below w.heap.size w w7) := Lib.hid (HB6.out.grown hg67 HB6.out.size (fun j hj => by simp at hj; omega))
                    have HO7 : Hid (OwnLots w.heap.size w7 vL (viewTo f lines c k)) := Lib.hid (HO6.out.kept hg67 (fun j hj => by simp at hj; omega) HB6.out.size (Or.inr fun e => by have := HVL0.out.rowlt _ e; omega))
                    have HLT7 : Hid (IsLot w.heap.size w7 (.slice avi dl.ins.length cvi) (.bool false) (.slice none 0 0) (hideLot true dl)) := Lib.hid ⟨((HLOT0.out.below HB7.out hB).mono hB).1, rfl, IsInts.nil0 _ _⟩
                    have HZW : Hid (w9.heap.size ≤ w7.heap.size) := Lib.hid (by have := HG67.out.size; have := HZ6.out; omega)
                    clear hcs hg7 hg7' hg67
                    have d0 := HC7.out.cell 0
                    have d1 := HC7.out.cell 1
                    have d2 := HC7.out.cell 2
                    have t1 := HL7'.out.cell 1
                    have g1 := HL7'.out.free 1
                    simp at d0 d1 d2 t1
                    have HSRC : Hid (SrcLots w.heap.size (w7.alloc (.cells #[.slice avi dl.ins.length cvi, .bool false, .slice none 0 0] 45)) (.slice (some ⟨w7.heap.size, 0, none⟩) 1 1) [hideLot true dl]) := Lib.hid (
                      srcLots_one ((CellsN.new w7 #[.slice avi dl.ins.length cvi, .bool false, .slice none 0 0] 45).cell 0) ((CellsN.new w7 #[.slice avi dl.ins.length cvi, .bool false, .slice none 0 0] 45).cell 1) ((CellsN.new w7 #[.slice avi dl.ins.length cvi, .bool false, .slice none 0 0] 45).cell 2) (HLT7.out.below (box_below' w7 _) HB7.out.size))
                    have HVL := Lib.hid (viewTo_len f lines c k)
                    have HNE : Hid (∀ j, j < w9.heap.size → some j ≠ vL.ownBlock) := Lib.hid fun j hj e => by have := HRW.out _ e.symm; omega
                    go_wp2_with (at_builtin; refine append_lotsA rfl (.tmp 70) (.tmp 72) rfl (C := w.heap.size) (v := vL) (xs := viewTo f lines c k) (ys := [hideLot true dl]) rfl (HO7.out.below (box_below' w7 _) HB7.out.size) rfl HSRC.out (by rw [HVL.out]; simp; omega) (by have := HB7.out.size; simp; omega) ?_; intro v8 w8 ho8 hg8 hat8; have HO8 := Lib.hid ho8; have HG8 := Lib.hid hg8; have HAT8 := Lib.hid hat8; obtain ⟨a8, n8, c8, rfl⟩ := ho8.form'; have q1 : w8.cell? ⟨w.heap.size + 1 + 1, 1, none⟩ = some vL := ((HG8.out.cell_far ⟨w.heap.size + 1 + 1, 1, none⟩ (by have := HL7'.out.lt; simp; omega) (HNE.out _ HZ9.out)).trans ((box_below' w7 _).cell (p := ⟨w.heap.size + 1 + 1, 1, none⟩) HL7'.out.lt)).trans t1; have q2 : w8.frozen? ⟨w.heap.size + 1 + 1, 1, none⟩ = false := ((HG8.out.frozen_far ⟨w.heap.size + 1 + 1, 1, none⟩ (by have := HL7'.out.lt; simp; omega) (HNE.out _ HZ9.out)).trans ((box_below' w7 _).frozen (p := ⟨w.heap.size + 1 + 1, 1, none⟩) HL7'.out.lt)).trans g1; clear ho8 hg8 hat8)
                    go_roundw
                    case rel =>
                      have hne : ∀ j, j < w9.heap.size → some j ≠ vL.ownBlock := fun j hj e => by have := HRW.out _ e.symm; omega
                      have hz := HZ6.out
                      have hz9 := HZ9.out
                      have hz7 := HZW.out
                      refine ⟨k + 1, .slice a8 n8 c8, by omega, by go_num, ?_, ?_, ?_, ?_, ?_, ?_⟩
                      · have h := ((HL7'.out.alloc _).grown HG8.out (hne _ (by omega))).set 1 (.slice a8 n8 c8)
                        simpa using h
                      · rw [HS.out]
                        refine HO8.out.kept (grown_setCell w8 ⟨w.heap.size + 1 + 1, 1, none⟩ (.slice a8 n8 c8)) (fun j hj => by simp at hj; omega) (by have := HB7.out.size; have := HG8.out.size; simp at this; omega) (Or.inr fun e => ?_)
                        rcases HAT8.out with h | h
                        · rw [h] at e; exact hne (w.heap.size + 1 + 1) (by omega) e.symm
                        · rw [h] at e; simp at e; omega
                      · intro j hj
                        rcases HAT8.out with h | h
                        · exact HRW.out j (by rw [← h]; exact hj)
                        · rw [h] at hj; simp at hj; omega
                      · exact ((HY7'.out.alloc _).grown HG8.out (hne _ (by omega))).grown (grown_setCell w8 ⟨w.heap.size + 1 + 1, 1, none⟩ (.slice a8 n8 c8)) (by simp)
                      · exact ((HB7.out.alloc HB7.out.size _).grown HG8.out (by have := HB7.out.size; simp; omega) (fun j hj => by have := HRW.out j hj; omega)).setCell (by show w.heap.size ≤ w.heap.size + 1 + 1; omega) _
                      · have := HG8.out.size; simp [World.setCell] at this ⊢; omega
                    case measure => simp [intOf]; omega
                · obtain rfl : k = f.lots.length := by omega
                  have t0 := HBT.out.cell 0
                  have t1 := HBT.out.cell 1
                  have g0 := HBT.out.free 0
                  have g1 := HBT.out.free 1
                  simp at t0 t1
                  obtain ⟨aL, nL, cL, rfl⟩ := HVL0.out.form'
                  go_wp2
                  have hN := (HBT.out.set 0 (.int .i64 f.senders)).set 1 (.slice aL nL cL)
                  have n0 := hN.cell 0
                  have n1 := hN.cell 1
                  simp at n0 n1
                  have hg := grown_trans (grown_setCell wr ⟨w.heap.size + 1 + 1, 0, none⟩ (.int .i64 f.senders)) (grown_setCell (wr.setCell ⟨w.heap.size + 1 + 1, 0, none⟩ (.int .i64 f.senders)) ⟨w.heap.size + 1 + 1, 1, none⟩ (.slice aL nL cL))
                  have hbN : Below w.heap.size w _ := (HBR.out.setCell (p := ⟨w.heap.size + 1 + 1, 0, none⟩) (by show w.heap.size ≤ w.heap.size + 1 + 1; omega) (.int .i64 f.senders)).setCell (p := ⟨w.heap.size + 1 + 1, 1, none⟩) (by show w.heap.size ≤ w.heap.size + 1 + 1; omega) (.slice aL nL cL)
                  refine bodyPost_ret (v := .tuple #[.agg #[.int .i64 f.senders, .slice aL nL cL], .int .i64 0]) (by simp [results, Try.results24, go_sem, n0, n1]) rfl ⟨.slice aL nL cL, by rw [HR.out, HE.out]; rfl, ?_, hbN⟩
                  rw [HR.out]
                  exact (HVL0.out.kept hg (fun j hj => by simp at hj; omega) HBR.out.size (Or.inr fun e => by have h1 := HRW.out (w.heap.size + 1 + 1) e; have h2 := HZ9.out; omega)).isLots hbN.size
        · have HE : Hid (ER = 1) := Lib.hid (by rw [HVE.out, HV2.out, hrw]; rfl)
          have HR : Hid (RR = ⟨0, []⟩) := Lib.hid (by rw [← HRR.out]; unfold viewR; rw [HER.out, HE.out]; rfl)
          clear hrw
          have c0 := HL7.out.cell 0
          have c1 := HL7.out.cell 1
          have f0 := HL7.out.free 0
          have f1 := HL7.out.free 1
          simp at c0 c1
          go_wp2
          have hN := (HL7.out.set 0 (.int .i64 0)).set 1 (.slice none 0 0)
          have n0 := hN.cell 0
          have n1 := hN.cell 1
          simp at n0 n1
          refine bodyPost_ret (v := .tuple #[.agg #[.int .i64 0, .slice none 0 0], .int .i64 1]) (by simp [results, Try.results24, go_sem, n0, n1]) rfl ⟨_, by rw [HR.out, HE.out], by rw [HR.out]; exact islots_nil _ _, (HW7.out.setCell (by show w.heap.size ≤ w.heap.size + 1 + 1; omega) _).setCell (by show w.heap.size ≤ w.heap.size + 1 + 1; omega) _⟩
      · have hll' : ((lines.length : Int) != (f.lots.length : Int)) = true := by simp; omega
        have HE : Hid (ER = 1) := Lib.hid (by rw [HVE.out, HV1.out, decide_eq_false hll]; rfl)
        have HR : Hid (RR = ⟨0, []⟩) := Lib.hid (by rw [← HRR.out]; unfold viewR; rw [HER.out, HE.out]; rfl)
        clear hll
        have c0 := HL6.out.cell 0
        have c1 := HL6.out.cell 1
        have f0 := HL6.out.free 0
        have f1 := HL6.out.free 1
        simp at c0 c1
        go_wp2
        have hN := (HL6.out.set 0 (.int .i64 0)).set 1 (.slice none 0 0)
        have n0 := hN.cell 0
        have n1 := hN.cell 1
        simp at n0 n1
        refine bodyPost_ret (v := .tuple #[.agg #[.int .i64 0, .slice none 0 0], .int .i64 1]) (by simp [results, Try.results24, go_sem, n0, n1]) rfl ⟨_, by rw [HR.out, HE.out], by rw [HR.out]; exact islots_nil _ _, (HW6.out.setCell (by show w.heap.size ≤ w.heap.size + 1 + 1; omega) _).setCell (by show w.heap.size ≤ w.heap.size + 1 + 1; omega) _⟩
  · have HE : Hid (ER = checkE f) := Lib.hid (by rw [← HER.out]; unfold viewE; rw [if_pos h1])
    have HR : Hid (RR = ⟨0, []⟩) := Lib.hid (by rw [← HRR.out]; unfold viewR; rw [if_neg (by rw [HER.out, HE.out]; exact h1)])
    have h1' : (checkE f != 0) = true := by simpa using h1
    have c0 := HL5.out.cell 0
    have c1 := HL5.out.cell 1
    have f0 := HL5.out.free 0
    have f1 := HL5.out.free 1
    simp at c0 c1
    clear h1
    go_wp2
    have hN := (HL5.out.set 0 (.int .i64 0)).set 1 (.slice none 0 0)
    have n0 := hN.cell 0
    have n1 := hN.cell 1
    simp at n0 n1
    refine bodyPost_ret (v := .tuple #[.agg #[.int .i64 0, .slice none 0 0], .int .i64 (checkE f)]) (by simp [results, Try.results24, go_sem, n0, n1]) rfl ⟨_, by rw [HR.out, HE.out], by rw [HR.out]; exact islots_nil _ _, (HW5.out.setCell (by show w.heap.size ≤ w.heap.size + 1 + 1; omega) _).setCell (by show w.heap.size ≤ w.heap.size + 1 + 1; omega) _⟩

end Go.Proofs.Ytndcbnnbgedgcaa
