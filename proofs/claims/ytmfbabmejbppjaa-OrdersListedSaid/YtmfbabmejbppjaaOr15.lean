/-
  Layer 18: the walk of frankingref18.known.
-/
import Derived.Test.YtmfbabmejbppjaaOr5
import Derived.Test.YtmfbabmejbppjaaOr11
import Derived.StillTailTactics
set_option linter.unusedVariables false
set_option linter.unusedSimpArgs false
namespace Go.Proofs.Ytmfbabmejbppjaa
open Go.RowKit

theorem IsStrs.drew {B : Nat} {w w' : World} {v : Value} {xs : List Str} (h : IsStrs B w v xs) (hd : Drew w w') : IsStrs B w' v xs := h.below strK (hd.below B) (Nat.le_refl _)

set_option maxHeartbeats 4000000 in
set_option maxRecDepth 100000 in
theorem known_any (B : Nat) (w : World) (v : NamesV) (n : NamesD) (va : Value) (x : WishD) (hB : B ≤ w.heap.size) (hv : IsNames B w v n) (hx : IsStrs B w va x.against) :
    Calls Try.prog 28 #[v.agg, wishV va x] w fun e w' => e = .returned (.bool (knownB n x)) ∧ Below w.heap.size w w' := by
  obtain ⟨vo, vp, vc, vh⟩ := v
  obtain ⟨ao, co, e, ho1, ho2, ho3⟩ := hv.o.form
  simp only at e; subst e
  obtain ⟨ap, cp, e, hp1, hp2, hp3⟩ := hv.p.form
  simp only at e; subst e
  obtain ⟨ac, cc, e, hc1, hc2, hc3⟩ := hv.c.form
  simp only at e; subst e
  obtain ⟨bh, oh, ch, ⟨ah, e, hh1, hh2, hh4⟩, hh3, hh5, hh6⟩ := id hv.h
  simp only at e; subst e
  obtain ⟨aa, ca, e, ha1, ha2, ha3⟩ := hx.form
  subst e
  obtain ⟨b0, hb0⟩ : ∃ b, w.heap.size = b := ⟨_, rfl⟩
  obtain ⟨W1, hW1⟩ : ∃ W, ((w.alloc (.cells #[.slice ao n.offices.length co, .slice ap n.people.length cp, .slice ac n.classes.length cc, .slice ah n.homes.length ch] 25)).alloc (.cells (wishC (.slice aa x.against.length ca) x).toArray 41)) = W := ⟨_, rfl⟩
  have HB1 : Hid (Below w.heap.size w W1) := Lib.hid (by rw [← hW1]; exact (box_below' w _).alloc (by simp) _)
  have HN1 : Hid (Box W1 b0 #[.slice ao n.offices.length co, .slice ap n.people.length cp, .slice ac n.classes.length cc, .slice ah n.homes.length ch]) := Lib.hid (by rw [← hW1, ← hb0]; exact (Box.new _ _ _).alloc _)
  have HX1 : Hid (Box W1 (b0 + 1) (wishC (.slice aa x.against.length ca) x).toArray) := Lib.hid (by
    rw [← hW1, ← hb0]
    have := Box.new (w.alloc (.cells #[.slice ao n.offices.length co, .slice ap n.people.length cp, .slice ac n.classes.length cc, .slice ah n.homes.length ch] 25)) (wishC (.slice aa x.against.length ca) x).toArray 41
    rw [World.size_alloc] at this
    exact this)
  have HV1 := Lib.hid (hv.below HB1.out hB)
  have HA1 := Lib.hid (hx.below strK HB1.out hB)
  have HW1 := Lib.hid hW1
  have hx0 := HN1.out.1
  have hx1 := HX1.out.1
  clear hv hx hW1 hh5 hh6 hh4
  have HKN : Hid (knownB n x = (x.against.all (fun s => decide (0 ≤ idxI n.offices s)) && decide (0 ≤ idxI n.offices x.frm) && decide (0 ≤ idxI n.people x.to) && decide (0 ≤ idxI n.classes x.cls))) := Lib.hid rfl
  unfold NamesV.agg wishV wishC
  unfold wishC at HW1
  go_enter Try.func28, Try.ntmps28
  go_upto_region 1 with fail
  rw [HW1.out]
  try rw [hb0]
  clear HW1 hb0
  go_wp2
  go_loopw [5] (fun iv wr => ∃ k, k ≤ x.against.length ∧ iv = .int .i64 k ∧ Drew W1 wr ∧ ∀ s ∈ x.against.take k, 0 ≤ idxI n.offices s) (fun iv _ => x.against.length - (intOf iv).toNat)
  case atStart => exact ⟨0, by omega, rfl, Drew.refl _, fun s hs => by simp at hs⟩
  case round =>
    obtain ⟨k, hk, rfl, hd, hall⟩ := hrel
    have HD := Lib.hid hd
    have HALL := Lib.hid hall
    have HNR := Lib.hid (HN1.out.ext (hd.below _))
    have HXR := Lib.hid (HX1.out.ext (hd.below _))
    have HBR : Hid (Below w.heap.size w wr) := Lib.hid (HB1.out.trans (hd.below _))
    clear hd hall
    obtain ⟨_, nr⟩ := HNR.out
    obtain ⟨_, xr⟩ := HXR.out
    have m0 := nr 0
    have m1 := nr 1
    have m2 := nr 2
    have x1 := xr 1
    have x2 := xr 2
    have x3 := xr 3
    have x8 := xr 8
    simp [wishC] at m0 m1 m2 x1 x2 x3 x8
    clear nr xr
    by_cases hlt : k < x.against.length
    · have HAR := Lib.hid (IsStrs.drew HA1.out HD.out)
      obtain ⟨b, off, rfl, bb, g0, gl⟩ := IsStrs.cell HAR.out hlt
      have HTK : Hid (x.against.take (k + 1) = x.against.take k ++ [strAt x.against k]) := Lib.hid (by rw [List.take_succ_eq_append_getElem hlt, strAt_get hlt])
      have HMEM : Hid (strAt x.against k ∈ x.against) := Lib.hid (by rw [strAt_get hlt]; exact List.getElem_mem hlt)
      obtain ⟨sk, hsk⟩ : ∃ s, strAt x.against k = s := ⟨_, rfl⟩
      rw [hsk] at g0 gl HTK HMEM
      clear hsk
      have HIX := Lib.hid (rindex_any B wr.drew (.slice ao n.offices.length co) n.offices sk (IsStrs.drew HV1.out.o (HD.out.drewN 1)))
      go_wp2
      go_still_tail 7, (by kernel_rfl)
      change wpList _ _ _ _ _ wr.drew
      clear m0 m1 m2 x1 x2 x3 x8 g0
      by_cases hi : 0 ≤ idxI n.offices sk
      · have HI := Lib.hid hi
        obtain ⟨ik, hik⟩ : ∃ z, idxI n.offices sk = z := ⟨_, rfl⟩
        have HIK := Lib.hid hik
        rw [hik] at hi HIX
        clear hik
        go_wp2_with (go_at_call 41; refine HIX.out.mono ?_; rintro e w5 ⟨rfl, rfl⟩)
        go_roundw
        case rel =>
          refine ⟨k + 1, by omega, by go_num, HD.out.drewN 1, fun s hs => ?_⟩
          rw [HTK.out] at hs
          rcases List.mem_append.1 hs with hs | hs
          · exact HALL.out s hs
          · obtain rfl := List.mem_singleton.1 hs
            exact HI.out
        case measure => simp [intOf]; omega
      · have HKF : Hid (knownB n x = false) := Lib.hid (by
          have h1 : x.against.all (fun s => decide (0 ≤ idxI n.offices s)) = false := by
            rw [List.all_eq_false]
            exact ⟨sk, HMEM.out, by simpa using hi⟩
          rw [HKN.out, h1]; rfl)
        have hi' : idxI n.offices sk < 0 := by omega
        obtain ⟨ik, hik⟩ : ∃ z, idxI n.offices sk = z := ⟨_, rfl⟩
        rw [hik] at hi' HIX
        clear hik hi
        go_wp2_with (go_at_call 41; refine HIX.out.mono ?_; rintro e w5 ⟨rfl, rfl⟩)
        go_ret
        exact ⟨ret_bool' HKF.out, HBR.out.trans ((Drew.refl wr).drewN 1 |>.below _)⟩
    · obtain rfl : k = x.against.length := by omega
      have HKA : Hid (x.against.all (fun s => decide (0 ≤ idxI n.offices s)) = true) := Lib.hid (by
        rw [List.all_eq_true]
        intro s hs
        have := HALL.out s (by rwa [List.take_length])
        simpa using this)
      have HI0 := Lib.hid (rindex_any B wr (.slice ao n.offices.length co) n.offices x.frm (IsStrs.drew HV1.out.o HD.out))
      have HI1 := Lib.hid (rindex_any B wr (.slice ap n.people.length cp) n.people x.to (IsStrs.drew HV1.out.p HD.out))
      have HI2 := Lib.hid (rindex_any B wr (.slice ac n.classes.length cc) n.classes x.cls (IsStrs.drew HV1.out.c HD.out))
      obtain ⟨i0, hi0⟩ : ∃ z, idxI n.offices x.frm = z := ⟨_, rfl⟩
      obtain ⟨i1, hi1⟩ : ∃ z, idxI n.people x.to = z := ⟨_, rfl⟩
      obtain ⟨i2, hi2⟩ : ∃ z, idxI n.classes x.cls = z := ⟨_, rfl⟩
      rw [hi0, hi1, hi2] at HKN
      rw [hi0] at HI0
      rw [hi1] at HI1
      rw [hi2] at HI2
      clear hi0 hi1 hi2
      by_cases h0 : 0 ≤ i0
      · by_cases h1 : 0 ≤ i1
        · have HF : Hid (knownB n x = decide (0 ≤ i2)) := Lib.hid (by rw [HKN.out, HKA.out, decide_eq_true h0, decide_eq_true h1]; simp)
          go_wp2_with first
            | (go_at_call 41; with_reducible refine HI0.out.mono ?_; rintro e w5 ⟨rfl, rfl⟩)
            | (go_at_call 41; with_reducible refine HI1.out.mono ?_; rintro e w5 ⟨rfl, rfl⟩)
            | (go_at_call 41; with_reducible refine HI2.out.mono ?_; rintro e w5 ⟨rfl, rfl⟩)
          go_ret
          exact ⟨ret_bool' HF.out, HBR.out⟩
        · have HF : Hid (knownB n x = false) := Lib.hid (by rw [HKN.out, decide_eq_false h1]; simp)
          have h1' : i1 < 0 := by omega
          clear h1
          go_wp2_with first
            | (go_at_call 41; with_reducible refine HI0.out.mono ?_; rintro e w5 ⟨rfl, rfl⟩)
            | (go_at_call 41; with_reducible refine HI1.out.mono ?_; rintro e w5 ⟨rfl, rfl⟩)
          go_ret
          exact ⟨ret_bool' HF.out, HBR.out⟩
      · have HF : Hid (knownB n x = false) := Lib.hid (by rw [HKN.out, decide_eq_false h0]; simp)
        have h0' : i0 < 0 := by omega
        clear h0
        go_wp2_with (go_at_call 41; with_reducible refine HI0.out.mono ?_; rintro e w5 ⟨rfl, rfl⟩)
        go_ret
        exact ⟨ret_bool' HF.out, HBR.out⟩
end Go.Proofs.Ytmfbabmejbppjaa
