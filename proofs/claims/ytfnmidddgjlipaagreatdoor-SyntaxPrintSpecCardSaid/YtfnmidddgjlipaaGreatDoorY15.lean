/-
  Layer 17: the walks of frankingref17: SameNames, SameWish, Same (printed by tools/geny15.py).
-/
import Derived.Test.YtfnmidddgjlipaaGreatDoorY14
set_option linter.unusedVariables false
set_option linter.unusedSimpArgs false
namespace Go.Proofs.YtfnmidddgjlipaaGreatDoor
open Go.RowKit

def sameN (xs ys : List Str) : Bool := decide (xs = ys)
theorem take_str {xs : List Str} {k : Nat} (h : k < xs.length) : xs.take (k + 1) = xs.take k ++ [strAt xs k] := by rw [List.take_succ_eq_append_getElem h, strAt_get h]

set_option maxHeartbeats 1000000 in
set_option maxRecDepth 100000 in
theorem rsnames_any (B : Nat) (w : World) (v v' : Value) (xs ys : List Str) (hv : IsStrs B w v xs) (hv' : IsStrs B w v' ys) :
    Calls Tryz.prog 47 #[v, v'] w fun e w' => e = .returned (.bool (sameN xs ys)) ∧ Drew w w' := by
  have HV := Lib.hid hv
  have HV' := Lib.hid hv'
  obtain ⟨a, cap, rfl, hcap, hmax, hlen⟩ := hv.form
  obtain ⟨a', cap', rfl, hcap', hmax', hlen'⟩ := hv'.form
  clear hv hv'
  by_cases hl : xs.length = ys.length
  · have HL := Lib.hid hl
    have hne2 : ((xs.length : Int) != (ys.length : Int)) = false := by rw [hl]; simp
    clear hl
    go_enter Tryz.func47, Tryz.ntmps47
    go_wp2
    go_loopw [5] (fun i wr => ∃ k : Nat, k ≤ xs.length ∧ i = .int .i64 k ∧ xs.take k = ys.take k ∧ Drew w wr) (fun i _ => xs.length - (intOf i).toNat)
    case atStart => exact ⟨0, by omega, rfl, rfl, Drew.refl _⟩
    case round =>
      obtain ⟨k, hk, rfl, hno, hd⟩ := hrel
      have HN := Lib.hid hno
      have HD := Lib.hid hd
      clear hno hd
      by_cases hlt : k < xs.length
      · have hlt' : k < ys.length := by rw [← HL.out]; exact hlt
        obtain ⟨b, off, rfl, bb, g0, _⟩ := IsStrs.cell HV.out hlt
        obtain ⟨b', off', rfl, bb', g1, _⟩ := IsStrs.cell HV'.out hlt'
        have hcell := (HD.out.cell _).trans g0
        have hcell' := (HD.out.cell _).trans g1
        obtain ⟨s1, hs1⟩ : ∃ s, xs.getD k [] = s := ⟨_, rfl⟩
        obtain ⟨s2, hs2⟩ : ∃ s, ys.getD k [] = s := ⟨_, rfl⟩
        have HS1 := Lib.hid (show strAt xs k = s1 from hs1)
        have HS2 := Lib.hid (show strAt ys k = s2 from hs2)
        rw [show strAt xs k = s1 from hs1] at hcell
        rw [show strAt ys k = s2 from hs2] at hcell'
        clear g0 g1 hs1 hs2 bb bb'
        by_cases he : s1 = s2
        · have HT : Hid (xs.take (k + 1) = ys.take (k + 1)) := Lib.hid (by rw [take_str hlt, take_str hlt', HN.out, HS1.out, HS2.out, he])
          have he' : (s1 == s2) = true := by simpa using he
          clear he
          go_wp2
          go_quiet (fail)
          go_wp2
          go_roundw
          case rel => exact ⟨k + 1, by omega, by go_num, HT.out, HD.out.drewN _⟩
          case measure => simp [intOf]; omega
        · have HT : Hid (sameN xs ys = false) := Lib.hid (by unfold sameN; rw [decide_eq_false]; rintro rfl; exact he (HS1.out.symm.trans HS2.out))
          have he' : (s1 == s2) = false := by simpa using he
          clear he
          go_wp2
          go_quiet (fail)
          go_wp2
          go_ret
          exact ⟨by rw [HT.out]; rfl, HD.out.drewN _⟩
      · have HT : Hid (sameN xs ys = true) := Lib.hid (by
          have h := HN.out
          rw [List.take_of_length_le (by omega), List.take_of_length_le (by have := HL.out; omega)] at h
          unfold sameN; rw [decide_eq_true h])
        go_wp2
        go_ret
        exact ⟨by rw [HT.out]; rfl, HD.out⟩
  · have HT : Hid (sameN xs ys = false) := Lib.hid (by unfold sameN; rw [decide_eq_false]; rintro rfl; exact hl rfl)
    have hne2 : ((xs.length : Int) != (ys.length : Int)) = true := by simp; omega
    clear hl
    go_enter Tryz.func47, Tryz.ntmps47
    go_wp2
    go_ret
    exact ⟨by rw [HT.out]; rfl, Drew.refl _⟩

instance : DecidableEq WishD := fun a b =>
  decidable_of_iff (a.name = b.name ∧ a.frm = b.frm ∧ a.to = b.to ∧ a.cls = b.cls ∧ a.after = b.after ∧ a.by_ = b.by_ ∧ a.crowd = b.crowd ∧ a.pay = b.pay ∧ a.against = b.against ∧ a.back = b.back ∧ a.els = b.els) (by cases a; cases b; simp)
def sameW (a b : WishD) : Bool := decide (a = b)
def wishV (va : Value) (x : WishD) : Value := .agg (wishC va x).toArray
set_option maxHeartbeats 4000000 in
set_option maxRecDepth 100000 in
theorem rswish_any (B : Nat) (w : World) (va vb : Value) (a b : WishD) (hB : B ≤ w.heap.size) (hv : IsStrs B w va a.against) (hv' : IsStrs B w vb b.against) :
    Calls Tryz.prog 17 #[wishV va a, wishV vb b] w fun e w' => e = .returned (.bool (sameW a b)) ∧ Below w.heap.size w w' := by
  obtain ⟨a1, c1, e1, h11, h12, h13⟩ := hv.form
  subst e1
  obtain ⟨a2, c2, e2, h21, h22, h23⟩ := hv'.form
  subst e2
  obtain ⟨b0, hb0⟩ : ∃ b, w.heap.size = b := ⟨_, rfl⟩
  obtain ⟨W1, hW1⟩ : ∃ W, (w.alloc (.cells (wishC (.slice a1 a.against.length c1) a).toArray 34)).alloc (.cells (wishC (.slice a2 b.against.length c2) b).toArray 34) = W := ⟨_, rfl⟩
  have HB1 : Hid (Below w.heap.size w W1) := Lib.hid (by rw [← hW1]; exact (box_below' w _).alloc (by simp) _)
  have HX1 : Hid (Box W1 b0 (wishC (.slice a1 a.against.length c1) a).toArray) := Lib.hid (by rw [← hW1, ← hb0]; exact (Box.new _ _ _).alloc _)
  have HY1 : Hid (Box W1 (b0 + 1) (wishC (.slice a2 b.against.length c2) b).toArray) := Lib.hid (by
    rw [← hW1, ← hb0]
    have := Box.new (w.alloc (.cells (wishC (.slice a1 a.against.length c1) a).toArray 34)) (wishC (.slice a2 b.against.length c2) b).toArray 34
    rw [World.size_alloc] at this
    exact this)
  have HI1 := Lib.hid (IsRecs.below strK hv HB1.out hB)
  have HI2 := Lib.hid (IsRecs.below strK hv' HB1.out hB)
  have HW1 := Lib.hid hW1
  clear hv hv' h13 h23 hW1
  unfold wishV wishC
  unfold wishC at HW1
  go_enter Tryz.func17, Tryz.ntmps17
  go_upto_region 1 with fail
  rw [HW1.out]
  try rw [hb0]
  clear HW1 hb0
  obtain ⟨_, xr⟩ := HX1.out
  obtain ⟨_, yr⟩ := HY1.out
  have x0 := xr 0
  have y0 := yr 0
  have x1 := xr 1
  have y1 := yr 1
  have x2 := xr 2
  have y2 := yr 2
  have x3 := xr 3
  have y3 := yr 3
  have x4 := xr 4
  have y4 := yr 4
  have x5 := xr 5
  have y5 := yr 5
  have x6 := xr 6
  have y6 := yr 6
  have x7 := xr 7
  have y7 := yr 7
  have x8 := xr 8
  have y8 := yr 8
  have x9 := xr 9
  have y9 := yr 9
  have x10 := xr 10
  have y10 := yr 10
  simp [wishC] at x0 y0 x1 y1 x2 y2 x3 y3 x4 y4 x5 y5 x6 y6 x7 y7 x8 y8 x9 y9 x10 y10
  clear xr yr
  have HNO : Hid (∀ h : a ≠ b, sameW a b = false) := Lib.hid (fun h => by unfold sameW; rw [decide_eq_false h])
  by_cases q0 : a.name = b.name
  rotate_left
  · have HT := Lib.hid (HNO.out (fun e => q0 (by rw [e])))
    have r0 : (!(a.name == b.name)) = true := by simpa using q0
    clear q0
    go_wp2
    go_ret
    exact ⟨by rw [HT.out]; rfl, HB1.out⟩
  have r0 : (!(a.name == b.name)) = false := by simpa using q0
  have Q0 := Lib.hid q0
  clear q0
  by_cases q1 : a.frm = b.frm
  rotate_left
  · have HT := Lib.hid (HNO.out (fun e => q1 (by rw [e])))
    have r1 : (!(a.frm == b.frm)) = true := by simpa using q1
    clear q1
    go_wp2
    go_ret
    exact ⟨by rw [HT.out]; rfl, HB1.out⟩
  have r1 : (!(a.frm == b.frm)) = false := by simpa using q1
  have Q1 := Lib.hid q1
  clear q1
  by_cases q2 : a.to = b.to
  rotate_left
  · have HT := Lib.hid (HNO.out (fun e => q2 (by rw [e])))
    have r2 : (!(a.to == b.to)) = true := by simpa using q2
    clear q2
    go_wp2
    go_ret
    exact ⟨by rw [HT.out]; rfl, HB1.out⟩
  have r2 : (!(a.to == b.to)) = false := by simpa using q2
  have Q2 := Lib.hid q2
  clear q2
  by_cases q3 : a.cls = b.cls
  rotate_left
  · have HT := Lib.hid (HNO.out (fun e => q3 (by rw [e])))
    have r3 : (!(a.cls == b.cls)) = true := by simpa using q3
    clear q3
    go_wp2
    go_ret
    exact ⟨by rw [HT.out]; rfl, HB1.out⟩
  have r3 : (!(a.cls == b.cls)) = false := by simpa using q3
  have Q3 := Lib.hid q3
  clear q3
  by_cases q4 : a.after = b.after
  rotate_left
  · have HT := Lib.hid (HNO.out (fun e => q4 (by rw [e])))
    have r4 : (a.after != b.after) = true := by simpa using q4
    clear q4
    go_wp2
    go_ret
    exact ⟨by rw [HT.out]; rfl, HB1.out⟩
  have r4 : (a.after != b.after) = false := by simpa using q4
  have Q4 := Lib.hid q4
  clear q4
  by_cases q5 : a.by_ = b.by_
  rotate_left
  · have HT := Lib.hid (HNO.out (fun e => q5 (by rw [e])))
    have r5 : (a.by_ != b.by_) = true := by simpa using q5
    clear q5
    go_wp2
    go_ret
    exact ⟨by rw [HT.out]; rfl, HB1.out⟩
  have r5 : (a.by_ != b.by_) = false := by simpa using q5
  have Q5 := Lib.hid q5
  clear q5
  by_cases q6 : a.crowd = b.crowd
  rotate_left
  · have HT := Lib.hid (HNO.out (fun e => q6 (by rw [e])))
    have r6 : (a.crowd != b.crowd) = true := by simpa using q6
    clear q6
    go_wp2
    go_ret
    exact ⟨by rw [HT.out]; rfl, HB1.out⟩
  have r6 : (a.crowd != b.crowd) = false := by simpa using q6
  have Q6 := Lib.hid q6
  clear q6
  by_cases q7 : a.pay = b.pay
  rotate_left
  · have HT := Lib.hid (HNO.out (fun e => q7 (by rw [e])))
    have r7 : (a.pay != b.pay) = true := by simpa using q7
    clear q7
    go_wp2
    go_ret
    exact ⟨by rw [HT.out]; rfl, HB1.out⟩
  have r7 : (a.pay != b.pay) = false := by simpa using q7
  have Q7 := Lib.hid q7
  clear q7
  go_upto_region 3 with fail
  clear r0 r1 r2 r3 r4 r5 r6 r7
  go_wp2_with fail
  refine (rsnames_any _ W1 _ _ _ _ HI1.out HI2.out).mono ?_
  rintro e w2 ⟨rfl, hd⟩
  have HD := Lib.hid hd
  have HBF : Hid (Below w.heap.size w w2) := Lib.hid (HB1.out.trans (HD.out.below _))
  have x9' := (hd.cell _).trans x9
  have y9' := (hd.cell _).trans y9
  have x10' := (hd.cell _).trans x10
  have y10' := (hd.cell _).trans y10
  clear hd x9 y9 x10 y10
  by_cases q8 : a.against = b.against
  rotate_left
  · have HT := Lib.hid (HNO.out (fun e => q8 (by rw [e])))
    have r8 : sameN a.against b.against = false := by unfold sameN; exact decide_eq_false q8
    clear q8
    go_wp2
    go_ret
    exact ⟨by rw [HT.out]; rfl, HBF.out⟩
  have r8 : sameN a.against b.against = true := by unfold sameN; exact decide_eq_true q8
  have Q8 := Lib.hid q8
  clear q8
  by_cases q9 : a.back = b.back
  rotate_left
  · have HT := Lib.hid (HNO.out (fun e => q9 (by rw [e])))
    have r9 : (a.back == b.back) = false := by simpa using q9
    clear q9
    go_wp2
    go_ret
    exact ⟨by rw [HT.out]; rfl, HBF.out⟩
  have r9 : (a.back == b.back) = true := by simpa using q9
  have Q9 := Lib.hid q9
  clear q9
  by_cases q10 : a.els = b.els
  rotate_left
  · have HT := Lib.hid (HNO.out (fun e => q10 (by rw [e])))
    have r10 : (a.els == b.els) = false := by simpa using q10
    clear q10
    go_wp2
    go_ret
    exact ⟨by rw [HT.out]; rfl, HBF.out⟩
  have r10 : (a.els == b.els) = true := by simpa using q10
  have Q10 := Lib.hid q10
  clear q10
  have HT : Hid (sameW a b = true) := Lib.hid (by
    unfold sameW
    rw [decide_eq_true]
    obtain ⟨p0, p1, p2, p3, p4, p5, p6, p7, p8, p9, p10⟩ := a
    obtain ⟨s0, s1, s2, s3, s4, s5, s6, s7, s8, s9, s10⟩ := b
    simp only [WishD.mk.injEq]
    exact ⟨Q0.out, Q1.out, Q2.out, Q3.out, Q4.out, Q5.out, Q6.out, Q7.out, Q8.out, Q9.out, Q10.out⟩)
  go_wp2
  go_ret
  exact ⟨by rw [HT.out]; rfl, HBF.out⟩
end Go.Proofs.YtfnmidddgjlipaaGreatDoor
