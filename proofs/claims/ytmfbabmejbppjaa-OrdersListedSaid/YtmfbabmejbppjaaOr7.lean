/-
  Layer 18: the walk of frankingref18.Right (printed by tools/rright.py).
-/
import Derived.Test.YtmfbabmejbppjaaOr6
import Derived.Test.YtmfbabmejbppjaaSo1
set_option linter.unusedVariables false
set_option linter.unusedSimpArgs false
namespace Go.Proofs.Ytmfbabmejbppjaa
open Go.RowKit

set_option maxHeartbeats 20000000 in
set_option maxRecDepth 100000 in
theorem rright_any (B : Nat) (w : World) (va : Value) (o : OrderD) (offs peo cla : Int) (hB : B ≤ w.heap.size) (hv : IsInts B w va o.against) (hok : okO o) :
    Calls Try.prog 18 #[orderV va o, .int .i64 offs, .int .i64 peo, .int .i64 cla] w fun e w' => e = .returned (.bool (rightB o offs peo cla)) ∧ Below w.heap.size w w' := by
  obtain ⟨bh, oh, ch, ⟨ah, e, hh1, hh2, hh4⟩, hh3, hh5, hh6⟩ := id hv
  subst e
  obtain ⟨frm, person, dest, cls, after, by_, crowd, pay, against, back, els⟩ := o
  simp only at hv hh1 hh3 hok
  obtain ⟨W1, hW1⟩ : ∃ W, w.alloc (.cells #[.int .i64 frm, .int .i64 person, .int .i64 dest, .int .i64 cls, .int .i64 after, .int .i64 by_, .int .i64 crowd, .int .i64 pay, .slice ah against.length ch, .bool back, .int .i64 els] 38) = W := ⟨_, rfl⟩
  have HB1 : Hid (Below w.heap.size w W1) := Lib.hid (by rw [← hW1]; exact box_below' w _)
  have HX1 : Hid (Box W1 w.heap.size #[.int .i64 frm, .int .i64 person, .int .i64 dest, .int .i64 cls, .int .i64 after, .int .i64 by_, .int .i64 crowd, .int .i64 pay, .slice ah against.length ch, .bool back, .int .i64 els]) := Lib.hid (by rw [← hW1]; exact Box.new _ _ _)
  have HV1 := Lib.hid (hv.below HB1.out hB)
  have HW1 := Lib.hid hW1
  clear hv hh5 hh6 hh4 hW1 hok
  unfold orderV orderC
  simp only
  go_enter Try.func18, Try.ntmps18
  go_upto_region 1 with fail
  rw [HW1.out]
  obtain ⟨_, xr⟩ := HX1.out
  have r0 := xr 0
  have r1 := xr 1
  have r2 := xr 2
  have r3 := xr 3
  have r4 := xr 4
  have r5 := xr 5
  have r6 := xr 6
  have r7 := xr 7
  have r8 := xr 8
  have r10 := xr 10
  simp at r0 r1 r2 r3 r4 r5 r6 r7 r8 r10
  clear xr
  by_cases c : frm < 0
  · have HF : Hid (rightB ⟨frm, person, dest, cls, after, by_, crowd, pay, against, back, els⟩ offs peo cla = false) := Lib.hid (by rw [Bool.eq_false_iff]; intro h; unfold rightB at h; simp at h; omega)
    go_wp2
    go_ret
    exact ⟨ret_bool' HF.out, HB1.out⟩
  · have p0 : 0 ≤ frm := by omega
    clear c
    by_cases c : offs ≤ frm
    · have HF : Hid (rightB ⟨frm, person, dest, cls, after, by_, crowd, pay, against, back, els⟩ offs peo cla = false) := Lib.hid (by rw [Bool.eq_false_iff]; intro h; unfold rightB at h; simp at h; omega)
      go_wp2
      go_ret
      exact ⟨ret_bool' HF.out, HB1.out⟩
    · have p1 : frm < offs := by omega
      clear c
      by_cases c : dest < 0
      · have HF : Hid (rightB ⟨frm, person, dest, cls, after, by_, crowd, pay, against, back, els⟩ offs peo cla = false) := Lib.hid (by rw [Bool.eq_false_iff]; intro h; unfold rightB at h; simp at h; omega)
        go_wp2
        go_ret
        exact ⟨ret_bool' HF.out, HB1.out⟩
      · have p2 : 0 ≤ dest := by omega
        clear c
        by_cases c : offs ≤ dest
        · have HF : Hid (rightB ⟨frm, person, dest, cls, after, by_, crowd, pay, against, back, els⟩ offs peo cla = false) := Lib.hid (by rw [Bool.eq_false_iff]; intro h; unfold rightB at h; simp at h; omega)
          go_wp2
          go_ret
          exact ⟨ret_bool' HF.out, HB1.out⟩
        · have p3 : dest < offs := by omega
          clear c
          by_cases c : frm = dest
          · have HF : Hid (rightB ⟨frm, person, dest, cls, after, by_, crowd, pay, against, back, els⟩ offs peo cla = false) := Lib.hid (by rw [Bool.eq_false_iff]; intro h; unfold rightB at h; simp [c] at h)
            have c' : (frm == dest) = true := by simpa using c
            clear c
            go_wp2
            go_ret
            exact ⟨ret_bool' HF.out, HB1.out⟩
          · have cEQ : (frm == dest) = false := by simpa using c
            have HNE := Lib.hid c
            clear c
            by_cases c : person < 0
            · have HF : Hid (rightB ⟨frm, person, dest, cls, after, by_, crowd, pay, against, back, els⟩ offs peo cla = false) := Lib.hid (by rw [Bool.eq_false_iff]; intro h; unfold rightB at h; simp at h; omega)
              go_wp2
              go_ret
              exact ⟨ret_bool' HF.out, HB1.out⟩
            · have p5 : 0 ≤ person := by omega
              clear c
              by_cases c : peo ≤ person
              · have HF : Hid (rightB ⟨frm, person, dest, cls, after, by_, crowd, pay, against, back, els⟩ offs peo cla = false) := Lib.hid (by rw [Bool.eq_false_iff]; intro h; unfold rightB at h; simp at h; omega)
                go_wp2
                go_ret
                exact ⟨ret_bool' HF.out, HB1.out⟩
              · have p6 : person < peo := by omega
                clear c
                by_cases c : cls < 0
                · have HF : Hid (rightB ⟨frm, person, dest, cls, after, by_, crowd, pay, against, back, els⟩ offs peo cla = false) := Lib.hid (by rw [Bool.eq_false_iff]; intro h; unfold rightB at h; simp at h; omega)
                  go_wp2
                  go_ret
                  exact ⟨ret_bool' HF.out, HB1.out⟩
                · have p7 : 0 ≤ cls := by omega
                  clear c
                  by_cases c : cla ≤ cls
                  · have HF : Hid (rightB ⟨frm, person, dest, cls, after, by_, crowd, pay, against, back, els⟩ offs peo cla = false) := Lib.hid (by rw [Bool.eq_false_iff]; intro h; unfold rightB at h; simp at h; omega)
                    go_wp2
                    go_ret
                    exact ⟨ret_bool' HF.out, HB1.out⟩
                  · have p8 : cls < cla := by omega
                    clear c
                    go_upto_region 3 with fail
                    by_cases c : after < 0
                    · have HF : Hid (rightB ⟨frm, person, dest, cls, after, by_, crowd, pay, against, back, els⟩ offs peo cla = false) := Lib.hid (by rw [Bool.eq_false_iff]; intro h; unfold rightB at h; simp at h; omega)
                      go_wp2
                      go_ret
                      exact ⟨ret_bool' HF.out, HB1.out⟩
                    · have q0 : 0 ≤ after := by omega
                      clear c
                      by_cases c : by_ ≤ after
                      · have HF : Hid (rightB ⟨frm, person, dest, cls, after, by_, crowd, pay, against, back, els⟩ offs peo cla = false) := Lib.hid (by rw [Bool.eq_false_iff]; intro h; unfold rightB at h; simp at h; omega)
                        go_wp2
                        go_ret
                        exact ⟨ret_bool' HF.out, HB1.out⟩
                      · have q1 : after < by_ := by omega
                        clear c
                        by_cases c : 2097152 ≤ by_
                        · have HF : Hid (rightB ⟨frm, person, dest, cls, after, by_, crowd, pay, against, back, els⟩ offs peo cla = false) := Lib.hid (by rw [Bool.eq_false_iff]; intro h; unfold rightB at h; simp at h; omega)
                          go_wp2
                          go_ret
                          exact ⟨ret_bool' HF.out, HB1.out⟩
                        · have q2 : by_ < 2097152 := by omega
                          clear c
                          by_cases c : crowd < 1
                          · have HF : Hid (rightB ⟨frm, person, dest, cls, after, by_, crowd, pay, against, back, els⟩ offs peo cla = false) := Lib.hid (by rw [Bool.eq_false_iff]; intro h; unfold rightB at h; simp at h; omega)
                            go_wp2
                            go_ret
                            exact ⟨ret_bool' HF.out, HB1.out⟩
                          · have q3 : 1 ≤ crowd := by omega
                            clear c
                            by_cases c : 64 < crowd
                            · have HF : Hid (rightB ⟨frm, person, dest, cls, after, by_, crowd, pay, against, back, els⟩ offs peo cla = false) := Lib.hid (by rw [Bool.eq_false_iff]; intro h; unfold rightB at h; simp at h; omega)
                              go_wp2
                              go_ret
                              exact ⟨ret_bool' HF.out, HB1.out⟩
                            · have q4 : crowd ≤ 64 := by omega
                              clear c
                              by_cases c : pay < 0
                              · have HF : Hid (rightB ⟨frm, person, dest, cls, after, by_, crowd, pay, against, back, els⟩ offs peo cla = false) := Lib.hid (by rw [Bool.eq_false_iff]; intro h; unfold rightB at h; simp at h; omega)
                                go_wp2
                                go_ret
                                exact ⟨ret_bool' HF.out, HB1.out⟩
                              · have q5 : 0 ≤ pay := by omega
                                clear c
                                by_cases c : 1099511627776 < pay
                                · have HF : Hid (rightB ⟨frm, person, dest, cls, after, by_, crowd, pay, against, back, els⟩ offs peo cla = false) := Lib.hid (by rw [Bool.eq_false_iff]; intro h; unfold rightB at h; simp at h; omega)
                                  go_wp2
                                  go_ret
                                  exact ⟨ret_bool' HF.out, HB1.out⟩
                                · have q6 : pay ≤ 1099511627776 := by omega
                                  clear c
                                  have HE : Hid (rightB ⟨frm, person, dest, cls, after, by_, crowd, pay, against, back, els⟩ offs peo cla = (risesB offs (-1) against && (decide (0 ≤ els) && decide (els ≤ 2)))) := Lib.hid (by
                                    have hne := HNE.out
                                    rw [Bool.eq_iff_iff]
                                    unfold rightB
                                    simp only [Bool.and_eq_true, decide_eq_true_eq]
                                    constructor
                                    · intro h
                                      exact ⟨h.2, by omega, by omega⟩
                                    · intro h
                                      refine ⟨?_, h.1⟩
                                      (repeat' apply And.intro) <;> first | exact hne | omega)
                                  clear cEQ
                                  go_wp2
                                  clear r0 r1 r2 r3 r4 r5 r6 r7 r8 r10
                                  go_loopw [9] (fun iv wr => ∃ k : Nat, k ≤ against.length ∧ iv = .int .i64 k ∧ RisesInv offs against k ∧ Drew W1 wr) (fun iv _ => against.length - (intOf iv).toNat)
                                  case atStart => exact ⟨0, by omega, rfl, rises_start _ _, Drew.refl _⟩
                                  case round =>
                                    obtain ⟨k, hk, rfl, hri, hd⟩ := hrel
                                    have HRI := Lib.hid hri
                                    have HD := Lib.hid hd
                                    have HXR := Lib.hid (HX1.out.below (hd.below _) HX1.out.1)
                                    have HVR := Lib.hid (HV1.out.below (hd.below B) (Nat.le_refl _))
                                    have HBR : Hid (Below w.heap.size w wr) := Lib.hid (HB1.out.trans (hd.below _))
                                    have hge := hri.2
                                    clear hri hd
                                    obtain ⟨_, xr⟩ := HXR.out
                                    have r8 := xr 8
                                    have r10 := xr 10
                                    simp at r8 r10
                                    clear xr
                                    by_cases hlt : k < against.length
                                    · obtain ⟨b, off, rfl, bb, g0, gl⟩ := IsInts.cellK HVR.out hlt
                                      have HS := Lib.hid (rises_at HRI.out hlt)
                                      have HNX := Lib.hid (fun h1 h2 => rises_next HRI.out hlt h1 h2)
                                      obtain ⟨hh, hhe⟩ : ∃ hh, nth against k = hh := ⟨_, rfl⟩
                                      have HHE := Lib.hid hhe
                                      rw [hhe] at g0 HS gl HNX
                                      obtain ⟨gl1, gl2⟩ := gl
                                      have hcap : (against.length : Int) ≤ (ch : Int) := by omega
                                      clear hhe
                                      have HGE := Lib.hid hge
                                      clear hge
                                      match k, hlt, hk, g0, HS, HNX, HRI, HHE, HGE with
                                      | 0, hlt, hk, g0, HS, HNX, HRI, HHE, HGE =>
                                        rw [Nat.add_zero] at g0
                                        have hl0 : (0 : Int) < (against.length : Int) := by omega
                                        by_cases h0 : hh < 0
                                        · have HN : Hid (risesB offs (-1) against = false) := Lib.hid (by rw [HS.out, decide_eq_false (by have := HGE.out; omega)]; rfl)
                                          go_wp2
                                          go_quiet (fail)
                                          go_wp2
                                          go_ret
                                          exact ⟨ret_bool' (by rw [HE.out, HN.out]; rfl), HBR.out.trans ((Drew.refl wr).drewN _ |>.below _)⟩
                                        · have h0' : 0 ≤ hh := by omega
                                          have hd0 : decide (hh < 0) = false := decide_eq_false h0
                                          clear h0
                                          by_cases h1 : offs ≤ hh
                                          · have HN : Hid (risesB offs (-1) against = false) := Lib.hid (by rw [HS.out, decide_eq_false (show ¬ hh < offs by omega), Bool.and_false]; rfl)
                                            go_wp2
                                            go_quiet (fail)
                                            go_wp2
                                            go_ret
                                            exact ⟨ret_bool' (by rw [HE.out, HN.out]; rfl), HBR.out.trans ((Drew.refl wr).drewN _ |>.below _)⟩
                                          · have h1' : hh < offs := by omega
                                            have hd1 : decide (offs ≤ hh) = false := decide_eq_false h1
                                            clear h1
                                            have HN := Lib.hid (HNX.out (by show (-1 : Int) < hh; omega) h1')
                                            go_wp2
                                            go_quiet (fail)
                                            go_wp2
                                            go_roundw
                                            case rel => exact ⟨0 + 1, by omega, by go_num, HN.out, HD.out.drewN _⟩
                                            case measure => simp [intOf]; omega
                                      | m + 1, hlt, hk, g0, HS, HNX, HRI, HHE, HGE =>
                                        obtain ⟨b', off', he, bb', g1, gl3⟩ := IsInts.cellK HVR.out (show m < against.length by omega)
                                        obtain ⟨rfl, rfl⟩ : b = b' ∧ off = off' := by injection he with he; injection he with h1 h2; exact ⟨h1, h2⟩
                                        obtain ⟨pr, hpr⟩ : ∃ pr, nth against m = pr := ⟨_, rfl⟩
                                        have HPR : Hid (lastAt against (m + 1) = pr) := Lib.hid hpr
                                        rw [hpr] at g1 gl3
                                        obtain ⟨gl4, gl5⟩ := gl3
                                        clear he bb' hpr
                                        have hm0 : (0 : Int) ≤ (m : Int) := by omega
                                        have hm1 : (m : Int) < (against.length : Int) := by omega
                                        have hm2 : (m : Int) + 1 < (against.length : Int) := by omega
                                        have hm3 : (0 : Int) < (m : Int) + 1 := by omega
                                        have hm4 : (m : Int) + 1 - 1 = (m : Int) := by omega
                                        by_cases h0 : hh < 0
                                        · have HN : Hid (risesB offs (-1) against = false) := Lib.hid (by rw [HS.out, decide_eq_false (by have := HGE.out; omega)]; rfl)
                                          go_wp2
                                          go_quiet (fail)
                                          go_wp2
                                          go_ret
                                          exact ⟨ret_bool' (by rw [HE.out, HN.out]; rfl), HBR.out.trans ((Drew.refl wr).drewN _ |>.below _)⟩
                                        · have h0' : 0 ≤ hh := by omega
                                          have hd0 : decide (hh < 0) = false := decide_eq_false h0
                                          clear h0
                                          by_cases h1 : offs ≤ hh
                                          · have HN : Hid (risesB offs (-1) against = false) := Lib.hid (by rw [HS.out, decide_eq_false (show ¬ hh < offs by omega), Bool.and_false]; rfl)
                                            go_wp2
                                            go_quiet (fail)
                                            go_wp2
                                            go_ret
                                            exact ⟨ret_bool' (by rw [HE.out, HN.out]; rfl), HBR.out.trans ((Drew.refl wr).drewN _ |>.below _)⟩
                                          · have h1' : hh < offs := by omega
                                            have hd1 : decide (offs ≤ hh) = false := decide_eq_false h1
                                            clear h1
                                            by_cases h2 : hh ≤ pr
                                            · have HN : Hid (risesB offs (-1) against = false) := Lib.hid (by rw [HS.out, HPR.out, decide_eq_false (by omega)]; rfl)
                                              go_wp2
                                              go_quiet (fail)
                                              go_wp2
                                              go_ret
                                              exact ⟨ret_bool' (by rw [HE.out, HN.out]; rfl), HBR.out.trans ((Drew.refl wr).drewN _ |>.below _)⟩
                                            · have HN := Lib.hid (HNX.out (by rw [HPR.out]; omega) h1')
                                              have h2' : pr < hh := by omega
                                              have hd2 : decide (hh ≤ pr) = false := decide_eq_false h2
                                              clear h2
                                              go_wp2
                                              go_quiet (fail)
                                              go_wp2
                                              go_roundw
                                              case rel => exact ⟨m + 1 + 1, by omega, by go_num, HN.out, HD.out.drewN _⟩
                                              case measure => simp [intOf]; omega
                                    · have HT := Lib.hid (rises_end HRI.out (by omega))
                                      have hkl : k = against.length := by omega
                                      subst hkl
                                      by_cases e0 : els = 0
                                      · subst e0
                                        go_wp2
                                        go_ret
                                        exact ⟨ret_bool' (by rw [HE.out, HT.out]; rfl), HBR.out⟩
                                      · have e0' : (els == 0) = false := by simpa using e0
                                        by_cases e1 : els = 1
                                        · subst e1
                                          go_wp2
                                          go_ret
                                          exact ⟨ret_bool' (by rw [HE.out, HT.out]; rfl), HBR.out⟩
                                        · have e1' : (els == 1) = false := by simpa using e1
                                          have HL : Hid ((els == 2) = (decide (0 ≤ els) && decide (els ≤ 2))) := Lib.hid (by rw [Bool.eq_iff_iff]; simp; omega)
                                          clear e0 e1
                                          go_wp2
                                          go_ret
                                          exact ⟨ret_bool' (by rw [HE.out, HT.out, Bool.true_and, ← HL.out]), HBR.out⟩
end Go.Proofs.Ytmfbabmejbppjaa
