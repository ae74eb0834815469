/-
  Layer 18: the walk of frankingref18.Check.
-/
import Derived.Test.YtmfbabmejbppjaaOr5
set_option linter.unusedVariables false
set_option linter.unusedSimpArgs false
namespace Go.Proofs.Ytmfbabmejbppjaa
open Go.RowKit

theorem checkN_2 {n : NamesD} (h : 24 < n.offices.length ∨ 1024 < n.people.length ∨ 8 < n.classes.length) : checkN n = 2 := by
  unfold checkN
  rw [if_pos]
  simp
  omega
theorem checkN_as {n : NamesD} (h1 : ¬ 24 < n.offices.length) (h2 : ¬ 1024 < n.people.length) (h3 : ¬ 8 < n.classes.length) : checkN n = if namesOk n.offices && namesOk n.people && namesOk n.classes && decide (n.homes.length = n.people.length) && homesTo n n.homes.length then 0 else 180 := by
  unfold checkN
  rw [if_neg (by simp; omega), homesTo_all]

set_option maxHeartbeats 4000000 in
set_option maxRecDepth 100000 in
theorem rcheck_any (B : Nat) (w : World) (v : NamesV) (n : NamesD) (hB : B ≤ w.heap.size) (hv : IsNames B w v n) :
    Calls Try.prog 15 #[v.agg] w fun e w' => e = .returned (.int .i64 (checkN n)) ∧ Below w.heap.size w w' := by
  obtain ⟨vo, vp, vc, vh⟩ := v
  obtain ⟨ao, co, e, ho1, ho2, ho3⟩ := hv.o.form
  simp only at e; subst e
  obtain ⟨ap, cp, e, hp1, hp2, hp3⟩ := hv.p.form
  simp only at e; subst e
  obtain ⟨ac, cc, e, hc1, hc2, hc3⟩ := hv.c.form
  simp only at e; subst e
  obtain ⟨bh, oh, ch, ⟨ah, e, hh1, hh2, hh4⟩, hh3, hh5, hh6⟩ := hv.h
  simp only at e; subst e
  obtain ⟨W1, hW1⟩ : ∃ W, w.alloc (.cells #[.slice ao n.offices.length co, .slice ap n.people.length cp, .slice ac n.classes.length cc, .slice ah n.homes.length ch] 25) = W := ⟨_, rfl⟩
  have HB1 : Hid (Below w.heap.size w W1) := Lib.hid (by rw [← hW1]; exact box_below' w _)
  have HX1 : Hid (Box W1 w.heap.size #[.slice ao n.offices.length co, .slice ap n.people.length cp, .slice ac n.classes.length cc, .slice ah n.homes.length ch]) := Lib.hid (by rw [← hW1]; exact Box.new _ _ _)
  have HV1 := Lib.hid (hv.below HB1.out hB)
  have HW1 := Lib.hid hW1
  clear hv hh5 hh6 hW1
  unfold NamesV.agg
  go_enter Try.func15, Try.ntmps15
  go_upto_region 1 with fail
  rw [HW1.out]
  obtain ⟨_, xr⟩ := HX1.out
  have r0 := xr 0
  have r1 := xr 1
  have r2 := xr 2
  have r3 := xr 3
  simp at r0 r1 r2 r3
  clear xr
  by_cases o1 : 24 < n.offices.length
  · have HE := Lib.hid (checkN_2 (Or.inl o1))
    have i1 : (24 : Int) < (n.offices.length : Int) := by omega
    go_wp2
    go_ret
    exact ⟨ret_int' HE.out, HB1.out⟩
  · by_cases o2 : 1024 < n.people.length
    · have HE := Lib.hid (checkN_2 (Or.inr (Or.inl o2)))
      have i1 : (n.offices.length : Int) ≤ 24 := by omega
      have i2 : (1024 : Int) < (n.people.length : Int) := by omega
      go_wp2
      go_ret
      exact ⟨ret_int' HE.out, HB1.out⟩
    · by_cases o3 : 8 < n.classes.length
      · have HE := Lib.hid (checkN_2 (Or.inr (Or.inr o3)))
        have i1 : (n.offices.length : Int) ≤ 24 := by omega
        have i2 : (n.people.length : Int) ≤ 1024 := by omega
        have i3 : (8 : Int) < (n.classes.length : Int) := by omega
        go_wp2
        go_ret
        exact ⟨ret_int' HE.out, HB1.out⟩
      · obtain ⟨N0, hN0⟩ : ∃ b, namesOk n.offices = b := ⟨_, rfl⟩
        obtain ⟨N1, hN1⟩ : ∃ b, namesOk n.people = b := ⟨_, rfl⟩
        obtain ⟨N2, hN2⟩ : ∃ b, namesOk n.classes = b := ⟨_, rfl⟩
        have HE : Hid (checkN n = if N0 && N1 && N2 && decide (n.homes.length = n.people.length) && homesTo n n.homes.length then 0 else 180) := Lib.hid (by rw [checkN_as o1 o2 o3, hN0, hN1, hN2])
        have H0 := Lib.hid hN0
        have H1 := Lib.hid hN1
        have H2 := Lib.hid hN2
        have i1 : (n.offices.length : Int) ≤ 24 := by omega
        have i2 : (n.people.length : Int) ≤ 1024 := by omega
        have i3 : (n.classes.length : Int) ≤ 8 := by omega
        clear o1 o2 o3 hN0 hN1 hN2
        go_wp2_with fail
        refine (rnames_any B W1 _ n.offices HV1.out.o).mono ?_
        rintro e w7 ⟨rfl, hw⟩
        rw [hw, H0.out]
        clear hw
        cases N0 with
        | false =>
          go_wp2
          go_ret
          exact ⟨ret_int' (by rw [HE.out]; rfl), HB1.out⟩
        | true =>
          go_wp2_with fail
          refine (rnames_any B W1 _ n.people HV1.out.p).mono ?_
          rintro e w7 ⟨rfl, hw⟩
          rw [hw, H1.out]
          clear hw
          cases N1 with
          | false =>
            go_wp2
            go_ret
            exact ⟨ret_int' (by rw [HE.out]; rfl), HB1.out⟩
          | true =>
            go_wp2_with fail
            refine (rnames_any B W1 _ n.classes HV1.out.c).mono ?_
            rintro e w7 ⟨rfl, hw⟩
            rw [hw, H2.out]
            clear hw
            cases N2 with
            | false =>
              go_wp2
              go_ret
              exact ⟨ret_int' (by rw [HE.out]; rfl), HB1.out⟩
            | true =>
              by_cases hl : n.homes.length = n.people.length
              · have HE2 : Hid (checkN n = if homesTo n n.homes.length then 0 else 180) := Lib.hid (by rw [HE.out, decide_eq_true hl]; rfl)
                have hl2 : ((n.homes.length : Int) != (n.people.length : Int)) = false := by simp; omega
                clear hl
                go_wp2
                clear r0 r1 r2 r3
                go_loopw [3] (fun iv wr => ∃ k : Nat, k ≤ n.homes.length ∧ iv = .int .i64 k ∧ homesTo n k = true ∧ Drew W1 wr) (fun iv _ => n.homes.length - (intOf iv).toNat)
                case atStart => exact ⟨0, by omega, rfl, rfl, Drew.refl _⟩
                case round =>
                  obtain ⟨k, hk, rfl, hall, hd⟩ := hrel
                  have HA := Lib.hid hall
                  have HD := Lib.hid hd
                  have HXR := Lib.hid (HX1.out.below (hd.below _) HX1.out.1)
                  have HVR := Lib.hid (HV1.out.below (hd.below B) (Nat.le_refl _))
                  have HBR : Hid (Below w.heap.size w wr) := Lib.hid (HB1.out.trans (hd.below _))
                  clear hall hd
                  obtain ⟨_, xr⟩ := HXR.out
                  have r0 := xr 0
                  have r3 := xr 3
                  simp at r0 r3
                  clear xr
                  by_cases hlt : k < n.homes.length
                  · obtain ⟨b, off, rfl, bb, g0, gl⟩ := IsInts.cellK HVR.out.h hlt
                    have HS := Lib.hid (homesTo_succ hlt)
                    have HNO : Hid (∀ q, homesTo n q = false → q ≤ n.homes.length → homesTo n n.homes.length = false) := Lib.hid (fun q hq hl => by
                      unfold homesTo at hq ⊢
                      rw [List.take_length]
                      rw [List.all_eq_false] at hq ⊢
                      obtain ⟨x, hx, hh⟩ := hq
                      exact ⟨x, List.mem_of_mem_take hx, hh⟩)
                    obtain ⟨hh, hhe⟩ : ∃ hh, nth n.homes k = hh := ⟨_, rfl⟩
                    rw [hhe] at g0 HS gl
                    obtain ⟨gl1, gl2⟩ := gl
                    clear hhe
                    by_cases h0 : 0 ≤ hh
                    · by_cases h1 : hh < n.offices.length
                      · have HN : Hid (homesTo n (k + 1) = true) := Lib.hid (by rw [HS.out, HA.out, decide_eq_true h0, decide_eq_true h1]; rfl)
                        go_wp2
                        go_quiet (fail)
                        go_wp2
                        go_roundw
                        case rel => exact ⟨k + 1, by omega, by go_num, HN.out, HD.out.drewN _⟩
                        case measure => simp [intOf]; omega
                      · have HN : Hid (homesTo n n.homes.length = false) := Lib.hid (HNO.out (k + 1) (by rw [HS.out, decide_eq_false h1, Bool.and_false, Bool.and_false]) (by omega))
                        have h1' : (n.offices.length : Int) ≤ hh := by omega
                        clear h1
                        go_wp2
                        go_quiet (fail)
                        go_wp2
                        go_ret
                        exact ⟨ret_int' (by rw [HE2.out, HN.out]; rfl), HBR.out.trans ((Drew.refl wr).drewN _ |>.below _)⟩
                    · have HN : Hid (homesTo n n.homes.length = false) := Lib.hid (HNO.out (k + 1) (by rw [HS.out, decide_eq_false h0, Bool.false_and, Bool.and_false]) (by omega))
                      have h0' : hh < 0 := by omega
                      clear h0
                      go_wp2
                      go_quiet (fail)
                      go_wp2
                      go_ret
                      exact ⟨ret_int' (by rw [HE2.out, HN.out]; rfl), HBR.out.trans ((Drew.refl wr).drewN _ |>.below _)⟩
                  · obtain rfl : k = n.homes.length := by omega
                    go_wp2
                    go_ret
                    exact ⟨ret_int' (by rw [HE2.out, HA.out]; rfl), HBR.out⟩
              · have HE2 : Hid (checkN n = 180) := Lib.hid (by rw [HE.out, decide_eq_false hl]; rfl)
                have hl2 : ((n.homes.length : Int) != (n.people.length : Int)) = true := by simp; omega
                clear hl
                go_wp2
                go_ret
                exact ⟨ret_int' HE2.out, HB1.out⟩
end Go.Proofs.Ytmfbabmejbppjaa
