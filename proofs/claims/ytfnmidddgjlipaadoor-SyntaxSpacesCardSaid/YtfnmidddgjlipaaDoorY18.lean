/-
  Layer 17: the walks of slices.Equal at strings, Same's closure, slices.EqualFunc, grammar.Same (printed by tools/geny18.py).
-/
import Derived.Test.YtfnmidddgjlipaaDoorY18a
set_option linter.unusedVariables false
set_option linter.unusedSimpArgs false
namespace Go.Proofs.YtfnmidddgjlipaaDoor
open Go.RowKit

set_option maxHeartbeats 1000000 in
set_option maxRecDepth 100000 in
theorem seqs_any (B : Nat) (w : World) (v v' : Value) (xs ys : List Str) (hv : IsStrs B w v xs) (hv' : IsStrs B w v' ys) :
    Calls Tryd.prog 36 #[v, v'] w fun e w' => e = .returned (.bool (sameN xs ys)) ∧ Drew w w' := by
  have HV := Lib.hid hv
  have HV' := Lib.hid hv'
  obtain ⟨a, cap, rfl, hcap, hmax, hlen⟩ := hv.form
  obtain ⟨a', cap', rfl, hcap', hmax', hlen'⟩ := hv'.form
  clear hv hv'
  by_cases hl : xs.length = ys.length
  · have HL := Lib.hid hl
    have hne2 : ((xs.length : Int) != (ys.length : Int)) = false := by rw [hl]; simp
    clear hl
    go_enter Tryd.func36, Tryd.ntmps36
    go_wp2
    go_loopw [13] (fun i wr => ∃ k : Nat, k ≤ xs.length ∧ i = .int .i64 k ∧ xs.take k = ys.take k ∧ Drew w wr) (fun i _ => xs.length - (intOf i).toNat)
    case atStart => exact ⟨0, by omega, rfl, rfl, Drew.refl _⟩
    case round =>
      obtain ⟨k, hk, rfl, hno, hd⟩ := hrel
      have HN := Lib.hid hno
      have HD := Lib.hid hd
      clear hno hd
      by_cases hlt : k < xs.length
      · have hlt' : k < ys.length := by rw [← HL.out]; exact hlt
        obtain ⟨b, off, rfl, bb, g0, _⟩ := IsStrs.cell HV.out hlt
        obtain ⟨b', off', rfl, bb', g1, _⟩ := IsStrs.cell HV'.out hlt'
        have hcell := (HD.out.cell _).trans g0
        have hcell' := (HD.out.cell _).trans g1
        obtain ⟨s1, hs1⟩ : ∃ s, xs.getD k [] = s := ⟨_, rfl⟩
        obtain ⟨s2, hs2⟩ : ∃ s, ys.getD k [] = s := ⟨_, rfl⟩
        have HS1 := Lib.hid (show strAt xs k = s1 from hs1)
        have HS2 := Lib.hid (show strAt ys k = s2 from hs2)
        rw [show strAt xs k = s1 from hs1] at hcell
        rw [show strAt ys k = s2 from hs2] at hcell'
        clear g0 g1 hs1 hs2 bb bb'
        by_cases he : s1 = s2
        · have HT : Hid (xs.take (k + 1) = ys.take (k + 1)) := Lib.hid (by rw [take_str hlt, take_str hlt', HN.out, HS1.out, HS2.out, he])
          have he' : (s1 == s2) = true := by simpa using he
          clear he
          go_wp2
          go_quiet (fail)
          go_wp2
          go_roundw
          case rel => exact ⟨k + 1, by omega, by go_num, HT.out, HD.out.drewN _⟩
          case measure => simp [intOf]; omega
        · have HT : Hid (sameN xs ys = false) := Lib.hid (by unfold sameN; rw [decide_eq_false]; rintro rfl; exact he (HS1.out.symm.trans HS2.out))
          have he' : (s1 == s2) = false := by simpa using he
          clear he
          go_wp2
          go_quiet (fail)
          go_wp2
          go_ret
          exact ⟨by rw [HT.out]; rfl, HD.out.drewN _⟩
      · have HT : Hid (sameN xs ys = true) := Lib.hid (by
          have h := HN.out
          rw [List.take_of_length_le (by omega), List.take_of_length_le (by have := HL.out; omega)] at h
          unfold sameN; rw [decide_eq_true h])
        go_wp2
        go_ret
        exact ⟨by rw [HT.out]; rfl, HD.out⟩
  · have HT : Hid (sameN xs ys = false) := Lib.hid (by unfold sameN; rw [decide_eq_false]; rintro rfl; exact hl rfl)
    have hne2 : ((xs.length : Int) != (ys.length : Int)) = true := by simp; omega
    clear hl
    go_enter Tryd.func36, Tryd.ntmps36
    go_wp2
    go_ret
    exact ⟨by rw [HT.out]; rfl, Drew.refl _⟩


theorem wrap_zero {a b : Int} (ha : I64 a) (hb : I64 b) : IntKind.i64.wrap (a - b) = 0 ↔ a = b := by
  unfold I64 at ha hb
  constructor
  · intro h
    by_cases h1 : -9223372036854775808 ≤ a - b ∧ a - b ≤ 9223372036854775807
    · rw [IntWalk.i64_in _ (by omega)] at h; omega
    · simp [IntKind.wrap, IntKind.signed, IntKind.bits] at h
      split at h <;> omega
  · rintro rfl
    rw [Int.sub_self, IntWalk.i64_in _ (by omega)]

set_option maxHeartbeats 4000000 in
set_option maxRecDepth 100000 in
theorem sameC_any (B : Nat) (w : World) (va vb : Value) (a b : WishD) (hB : B ≤ w.heap.size) (hv : IsStrs B w va a.against) (hv' : IsStrs B w vb b.against) (hoa : okW a) (hob : okW b) :
    Calls Tryd.prog 35 #[wishV va a, wishV vb b] w fun e w' => e = .returned (.bool (sameW a b)) ∧ Below w.heap.size w w' := by
  obtain ⟨a1, c1, e1, h11, h12, h13⟩ := hv.form
  subst e1
  obtain ⟨a2, c2, e2, h21, h22, h23⟩ := hv'.form
  subst e2
  obtain ⟨b0, hb0⟩ : ∃ b, w.heap.size = b := ⟨_, rfl⟩
  obtain ⟨W1, hW1⟩ : ∃ W, (w.alloc (.cells (wishC (.slice a1 a.against.length c1) a).toArray 48)).alloc (.cells (wishC (.slice a2 b.against.length c2) b).toArray 48) = W := ⟨_, rfl⟩
  have HB1 : Hid (Below w.heap.size w W1) := Lib.hid (by rw [← hW1]; exact (box_below' w _).alloc (by simp) _)
  have HX1 : Hid (Box W1 b0 (wishC (.slice a1 a.against.length c1) a).toArray) := Lib.hid (by rw [← hW1, ← hb0]; exact (Box.new _ _ _).alloc _)
  have HY1 : Hid (Box W1 (b0 + 1) (wishC (.slice a2 b.against.length c2) b).toArray) := Lib.hid (by
    rw [← hW1, ← hb0]
    have := Box.new (w.alloc (.cells (wishC (.slice a1 a.against.length c1) a).toArray 48)) (wishC (.slice a2 b.against.length c2) b).toArray 48
    rw [World.size_alloc] at this
    exact this)
  have HI1 := Lib.hid (IsRecs.below strK hv HB1.out hB)
  have HI2 := Lib.hid (IsRecs.below strK hv' HB1.out hB)
  have HW1 := Lib.hid hW1
  clear hv hv' h13 h23 hW1
  unfold wishV wishC
  unfold wishC at HW1
  go_enter Tryd.func35, Tryd.ntmps35
  go_upto_region 1 with fail
  rw [HW1.out]
  try rw [hb0]
  clear HW1 hb0
  obtain ⟨_, xr⟩ := HX1.out
  obtain ⟨_, yr⟩ := HY1.out
  have x0 := xr 0
  have y0 := yr 0
  have x1 := xr 1
  have y1 := yr 1
  have x2 := xr 2
  have y2 := yr 2
  have x3 := xr 3
  have y3 := yr 3
  have x4 := xr 4
  have y4 := yr 4
  have x5 := xr 5
  have y5 := yr 5
  have x6 := xr 6
  have y6 := yr 6
  have x7 := xr 7
  have y7 := yr 7
  have x8 := xr 8
  have y8 := yr 8
  have x9 := xr 9
  have y9 := yr 9
  have x10 := xr 10
  have y10 := yr 10
  simp [wishC] at x0 y0 x1 y1 x2 y2 x3 y3 x4 y4 x5 y5 x6 y6 x7 y7 x8 y8 x9 y9 x10 y10
  clear xr yr
  have HNO : Hid (∀ h : a ≠ b, sameW a b = false) := Lib.hid (fun h => by unfold sameW; rw [decide_eq_false h])
  obtain ⟨_, _, _, _, oa4, oa5, oa6, oa7, oa10⟩ := hoa
  obtain ⟨_, _, _, _, ob4, ob5, ob6, ob7, ob10⟩ := hob
  obtain ⟨d4, hd4⟩ : ∃ d, IntKind.i64.wrap (a.after - b.after) = d := ⟨_, rfl⟩
  have HD4 : Hid (d4 = 0 ↔ a.after = b.after) := Lib.hid (by rw [← hd4]; exact wrap_zero oa4 ob4)
  obtain ⟨d5, hd5⟩ : ∃ d, IntKind.i64.wrap (a.by_ - b.by_) = d := ⟨_, rfl⟩
  have HD5 : Hid (d5 = 0 ↔ a.by_ = b.by_) := Lib.hid (by rw [← hd5]; exact wrap_zero oa5 ob5)
  obtain ⟨d6, hd6⟩ : ∃ d, IntKind.i64.wrap (a.crowd - b.crowd) = d := ⟨_, rfl⟩
  have HD6 : Hid (d6 = 0 ↔ a.crowd = b.crowd) := Lib.hid (by rw [← hd6]; exact wrap_zero oa6 ob6)
  obtain ⟨d7, hd7⟩ : ∃ d, IntKind.i64.wrap (a.pay - b.pay) = d := ⟨_, rfl⟩
  have HD7 : Hid (d7 = 0 ↔ a.pay = b.pay) := Lib.hid (by rw [← hd7]; exact wrap_zero oa7 ob7)
  obtain ⟨d10, hd10⟩ : ∃ d, IntKind.i64.wrap (a.els - b.els) = d := ⟨_, rfl⟩
  have HD10 : Hid (d10 = 0 ↔ a.els = b.els) := Lib.hid (by rw [← hd10]; exact wrap_zero oa10 ob10)
  clear oa4 oa5 oa6 oa7 oa10 ob4 ob5 ob6 ob7 ob10
  go_upto_region 2 with fail
  obtain ⟨b5, hb5⟩ : ∃ z, W1.heap.size = z := ⟨_, rfl⟩
  obtain ⟨W5, hW5⟩ : ∃ W, W1.alloc (.cells #[.int .i64 d4, .int .i64 d5, .int .i64 d6, .int .i64 d7, .int .i64 d10] 69) = W := ⟨_, rfl⟩
  have hb : Below W1.heap.size W1 W5 := by rw [← hW5]; exact box_below' W1 _
  have HB5 : Hid (Below w.heap.size w W5) := Lib.hid (HB1.out.trans (hb.mono HB1.out.size))
  have hn5 : CellsN W5 b5 #[.int .i64 d4, .int .i64 d5, .int .i64 d6, .int .i64 d7, .int .i64 d10] := by rw [← hW5, ← hb5]; exact CellsN.new _ _ _
  have HX5 := Lib.hid (HX1.out.ext hb)
  have HY5 := Lib.hid (HY1.out.ext hb)
  have HI5 := Lib.hid (IsRecs.below strK HI1.out hb (by have := HB1.out.size; omega))
  have HI6 := Lib.hid (IsRecs.below strK HI2.out hb (by have := HB1.out.size; omega))
  rw [hW5]
  try rw [hb5]
  clear x0 x1 x2 x3 x4 x5 x6 x7 x8 x9 x10 y0 y1 y2 y3 y4 y5 y6 y7 y8 y9 y10 hW5 hb hb5 hd4 hd5 hd6 hd7 hd10
  obtain ⟨_, xr⟩ := HX5.out
  obtain ⟨_, yr⟩ := HY5.out
  have x0 := xr 0
  have y0 := yr 0
  have x1 := xr 1
  have y1 := yr 1
  have x2 := xr 2
  have y2 := yr 2
  have x3 := xr 3
  have y3 := yr 3
  have x8 := xr 8
  have y8 := yr 8
  have x9 := xr 9
  have y9 := yr 9
  have z0 := hn5.cell 0
  have z1 := hn5.cell 1
  have z2 := hn5.cell 2
  have z3 := hn5.cell 3
  have z4 := hn5.cell 4
  simp [wishC] at x0 y0 x1 y1 x2 y2 x3 y3 x8 y8 x9 y9
  simp at z0 z1 z2 z3 z4
  clear xr yr hn5
  by_cases q0 : a.name = b.name
  rotate_left
  · have HT := Lib.hid (HNO.out (fun e => q0 (by rw [e])))
    have r0 : (a.name == b.name) = false := by simpa using q0
    clear q0
    go_wp2
    go_ret
    exact ⟨by rw [HT.out]; rfl, HB5.out⟩
  have r0 : (a.name == b.name) = true := by simpa using q0
  have Q0 := Lib.hid q0
  clear q0
  by_cases q1 : a.frm = b.frm
  rotate_left
  · have HT := Lib.hid (HNO.out (fun e => q1 (by rw [e])))
    have r1 : (a.frm == b.frm) = false := by simpa using q1
    clear q1
    go_wp2
    go_ret
    exact ⟨by rw [HT.out]; rfl, HB5.out⟩
  have r1 : (a.frm == b.frm) = true := by simpa using q1
  have Q1 := Lib.hid q1
  clear q1
  by_cases q2 : a.to = b.to
  rotate_left
  · have HT := Lib.hid (HNO.out (fun e => q2 (by rw [e])))
    have r2 : (a.to == b.to) = false := by simpa using q2
    clear q2
    go_wp2
    go_ret
    exact ⟨by rw [HT.out]; rfl, HB5.out⟩
  have r2 : (a.to == b.to) = true := by simpa using q2
  have Q2 := Lib.hid q2
  clear q2
  by_cases q3 : a.cls = b.cls
  rotate_left
  · have HT := Lib.hid (HNO.out (fun e => q3 (by rw [e])))
    have r3 : (a.cls == b.cls) = false := by simpa using q3
    clear q3
    go_wp2
    go_ret
    exact ⟨by rw [HT.out]; rfl, HB5.out⟩
  have r3 : (a.cls == b.cls) = true := by simpa using q3
  have Q3 := Lib.hid q3
  clear q3
  go_upto_region 3 with fail
  clear r0 r1 r2 r3 x0 x1 x2 x3 y0 y1 y2 y3
  have heq := eq5 d4 d5 d6 d7 d10 W5
  by_cases hz : d4 = 0 ∧ d5 = 0 ∧ d6 = 0 ∧ d7 = 0 ∧ d10 = 0
  rotate_left
  · have hzb : (d4 == 0 && d5 == 0 && d6 == 0 && d7 == 0 && d10 == 0) = false := by
      rw [Bool.eq_false_iff]
      intro h
      simp only [Bool.and_eq_true, beq_iff_eq] at h
      exact hz ⟨h.1.1.1.1, h.1.1.1.2, h.1.1.2, h.1.2, h.2⟩
    rw [hzb] at heq
    have HT := Lib.hid (HNO.out (fun e => hz ⟨HD4.out.2 (by rw [e]), HD5.out.2 (by rw [e]), HD6.out.2 (by rw [e]), HD7.out.2 (by rw [e]), HD10.out.2 (by rw [e])⟩))
    clear hz hzb
    go_wp2
    go_ret
    exact ⟨by rw [HT.out]; rfl, HB5.out⟩
  have hzb : (d4 == 0 && d5 == 0 && d6 == 0 && d7 == 0 && d10 == 0) = true := by simp [hz]
  rw [hzb] at heq
  have Q4 := Lib.hid (HD4.out.1 hz.1)
  have Q5 := Lib.hid (HD5.out.1 hz.2.1)
  have Q6 := Lib.hid (HD6.out.1 hz.2.2.1)
  have Q7 := Lib.hid (HD7.out.1 hz.2.2.2.1)
  have Q10 := Lib.hid (HD10.out.1 hz.2.2.2.2)
  clear hz hzb
  by_cases q9 : a.back = b.back
  rotate_left
  · have HT := Lib.hid (HNO.out (fun e => q9 (by rw [e])))
    have r9 : (a.back == b.back) = false := by simpa using q9
    clear q9
    go_wp2
    go_ret
    exact ⟨by rw [HT.out]; rfl, HB5.out⟩
  have r9 : (a.back == b.back) = true := by simpa using q9
  have Q9 := Lib.hid q9
  clear q9
  have HT : Hid (sameW a b = sameN a.against b.against) := Lib.hid (by
    unfold sameW sameN
    rw [decide_eq_decide]
    constructor
    · intro e; rw [e]
    · intro e
      obtain ⟨p0, p1, p2, p3, p4, p5, p6, p7, p8, p9, p10⟩ := a
      obtain ⟨s0, s1, s2, s3, s4, s5, s6, s7, s8, s9, s10⟩ := b
      simp only [WishD.mk.injEq]
      exact ⟨Q0.out, Q1.out, Q2.out, Q3.out, Q4.out, Q5.out, Q6.out, Q7.out, e, Q9.out, Q10.out⟩)
  go_wp2_with fail
  refine (seqs_any _ W5 _ _ _ _ HI5.out HI6.out).mono ?_
  rintro e w2 ⟨rfl, hd⟩
  have HD := Lib.hid hd
  clear hd
  go_wp2
  go_ret
  exact ⟨by rw [HT.out]; rfl, HB5.out.trans (HD.out.below _)⟩

set_option maxHeartbeats 8000000 in
set_option maxRecDepth 100000 in
theorem eqfuncW_any (B : Nat) (w : World) (v v' : Value) (xs ys : List WishD) (hB : B ≤ w.heap.size) (hv : IsWishes B w v xs) (hv' : IsWishes B w v' ys) :
    Calls Tryd.prog 34 #[v, v', .func (.func 35) #[] #[]] w fun e w' => e = .returned (.bool (sameWs xs ys)) ∧ Below w.heap.size w w' := by
  obtain ⟨a, c, rfl, hc1, hc2, hc3⟩ := hv.form
  obtain ⟨a', c', rfl, hd1, hd2, hd3⟩ := hv'.form
  have HV := Lib.hid hv
  have HV' := Lib.hid hv'
  clear hv hv'
  by_cases hl : xs.length = ys.length
  · have HL := Lib.hid hl
    have hne2 : ((xs.length : Int) != (ys.length : Int)) = false := by rw [hl]; simp
    clear hl
    go_enter Tryd.func34, Tryd.ntmps34
    go_wp2
    go_loopw [17] (fun i wr => ∃ k : Nat, k ≤ xs.length ∧ i = .int .i64 k ∧ xs.take k = ys.take k ∧ Below w.heap.size w wr) (fun i _ => xs.length - (intOf i).toNat)
    case atStart => exact ⟨0, by omega, rfl, rfl, Below.refl _ _⟩
    case round =>
      obtain ⟨k, hk, rfl, hno, hd⟩ := hrel
      have HN := Lib.hid hno
      have HD := Lib.hid hd
      have hsz := hd.size
      clear hno hd
      by_cases hlt : k < xs.length
      · have hlt' : k < ys.length := by rw [← HL.out]; exact hlt
        obtain ⟨b, off, va, rfl, bb, hst, hok, g0, g1, g2, g3, g4, g5, g6, g7, g8, g9, g10⟩ := IsWishes.cell (IsRecs.below wishK HV.out HD.out hB) hlt
        obtain ⟨b', off', va', rfl, bb', hst', hok', k0, k1, k2, k3, k4, k5, k6, k7, k8, k9, k10⟩ := IsWishes.cell (IsRecs.below wishK HV'.out HD.out hB) hlt'
        obtain ⟨av, cv, rfl, _, _, _⟩ := IsRecs.form hst
        obtain ⟨av', cv', rfl, _, _, _⟩ := IsRecs.form hst'
        have HT1 := Lib.hid (take_wish hlt)
        have HT2 := Lib.hid (take_wish hlt')
        obtain ⟨X, hX⟩ : ∃ X, wishAt xs k = X := ⟨_, rfl⟩
        obtain ⟨Y, hY⟩ : ∃ Y, wishAt ys k = Y := ⟨_, rfl⟩
        have HX := Lib.hid hX
        have HY := Lib.hid hY
        rw [hX] at hst hok HT1 g0 g1 g2 g3 g4 g5 g6 g7 g8 g9 g10
        rw [hY] at hst' hok' HT2 k0 k1 k2 k3 k4 k5 k6 k7 k8 k9 k10
        have HST := Lib.hid hst
        have HST' := Lib.hid hst'
        have HOKX := Lib.hid hok
        have HOKY := Lib.hid hok'
        have hki : (k : Int) < (ys.length : Int) := by omega
        obtain ⟨W1, hW1⟩ : ∃ W, (wr.alloc (.cells #[strV X.name, strV X.frm, strV X.to, strV X.cls, .int .i64 X.after, .int .i64 X.by_, .int .i64 X.crowd, .int .i64 X.pay, .slice av X.against.length cv, .bool X.back, .int .i64 X.els] 48)).alloc (.cells #[strV Y.name, strV Y.frm, strV Y.to, strV Y.cls, .int .i64 Y.after, .int .i64 Y.by_, .int .i64 Y.crowd, .int .i64 Y.pay, .slice av' Y.against.length cv', .bool Y.back, .int .i64 Y.els] 48) = W := ⟨_, rfl⟩
        have hb1 : Below wr.heap.size wr W1 := by rw [← hW1]; exact (box_below' wr _).alloc (by simp) _
        have HB1 := Lib.hid hb1
        have HX1 : Hid (CellsN W1 wr.heap.size #[strV X.name, strV X.frm, strV X.to, strV X.cls, .int .i64 X.after, .int .i64 X.by_, .int .i64 X.crowd, .int .i64 X.pay, .slice av X.against.length cv, .bool X.back, .int .i64 X.els]) := Lib.hid (by rw [← hW1]; exact (CellsN.new _ _ _).alloc _)
        have HY1 : Hid (CellsN W1 (wr.heap.size + 1) #[strV Y.name, strV Y.frm, strV Y.to, strV Y.cls, .int .i64 Y.after, .int .i64 Y.by_, .int .i64 Y.crowd, .int .i64 Y.pay, .slice av' Y.against.length cv', .bool Y.back, .int .i64 Y.els]) := Lib.hid (by
          rw [← hW1]
          have := CellsN.new (wr.alloc (.cells #[strV X.name, strV X.frm, strV X.to, strV X.cls, .int .i64 X.after, .int .i64 X.by_, .int .i64 X.crowd, .int .i64 X.pay, .slice av X.against.length cv, .bool X.back, .int .i64 X.els] 48)) #[strV Y.name, strV Y.frm, strV Y.to, strV Y.cls, .int .i64 Y.after, .int .i64 Y.by_, .int .i64 Y.crowd, .int .i64 Y.pay, .slice av' Y.against.length cv', .bool Y.back, .int .i64 Y.els] 48
          rw [World.size_alloc] at this
          exact this)
        have HW1 := Lib.hid hW1
        have HS1 := Lib.hid (IsRecs.below strK HST.out (hb1.mono hsz) hB)
        have HS2 := Lib.hid (IsRecs.below strK HST'.out (hb1.mono hsz) hB)
        have HBW : Hid (Below w.heap.size w W1) := Lib.hid (HD.out.trans (hb1.mono hsz))
        clear hX hY hst hst' hok hok' hb1 hW1
        have kc0 := (box_below' wr (.cells #[strV X.name, strV X.frm, strV X.to, strV X.cls, .int .i64 X.after, .int .i64 X.by_, .int .i64 X.crowd, .int .i64 X.pay, .slice av X.against.length cv, .bool X.back, .int .i64 X.els] 48))
        have hbl : b' < wr.heap.size := by omega
        have n0 := (kc0.cell (p := ⟨b', off' + k * 11, none⟩) hbl).trans k0
        have n1 := (kc0.cell (p := ⟨b', off' + k * 11 + 1, none⟩) hbl).trans k1
        have n2 := (kc0.cell (p := ⟨b', off' + k * 11 + 2, none⟩) hbl).trans k2
        have n3 := (kc0.cell (p := ⟨b', off' + k * 11 + 3, none⟩) hbl).trans k3
        have n4 := (kc0.cell (p := ⟨b', off' + k * 11 + 4, none⟩) hbl).trans k4
        have n5 := (kc0.cell (p := ⟨b', off' + k * 11 + 5, none⟩) hbl).trans k5
        have n6 := (kc0.cell (p := ⟨b', off' + k * 11 + 6, none⟩) hbl).trans k6
        have n7 := (kc0.cell (p := ⟨b', off' + k * 11 + 7, none⟩) hbl).trans k7
        have n8 := (kc0.cell (p := ⟨b', off' + k * 11 + 8, none⟩) hbl).trans k8
        have n9 := (kc0.cell (p := ⟨b', off' + k * 11 + 9, none⟩) hbl).trans k9
        have n10 := (kc0.cell (p := ⟨b', off' + k * 11 + 10, none⟩) hbl).trans k10
        clear kc0
        go_upto_region 7 with fail
        rw [HW1.out]
        clear g0 g1 g2 g3 g4 g5 g6 g7 g8 g9 g10 k0 k1 k2 k3 k4 k5 k6 k7 k8 k9 k10 n0 n1 n2 n3 n4 n5 n6 n7 n8 n9 n10
        have p0 := HX1.out.cell 0
        have r0 := HY1.out.cell 0
        have p1 := HX1.out.cell 1
        have r1 := HY1.out.cell 1
        have p2 := HX1.out.cell 2
        have r2 := HY1.out.cell 2
        have p3 := HX1.out.cell 3
        have r3 := HY1.out.cell 3
        have p4 := HX1.out.cell 4
        have r4 := HY1.out.cell 4
        have p5 := HX1.out.cell 5
        have r5 := HY1.out.cell 5
        have p6 := HX1.out.cell 6
        have r6 := HY1.out.cell 6
        have p7 := HX1.out.cell 7
        have r7 := HY1.out.cell 7
        have p8 := HX1.out.cell 8
        have r8 := HY1.out.cell 8
        have p9 := HX1.out.cell 9
        have r9 := HY1.out.cell 9
        have p10 := HX1.out.cell 10
        have r10 := HY1.out.cell 10
        simp at p0 r0 p1 r1 p2 r2 p3 r3 p4 r4 p5 r5 p6 r6 p7 r7 p8 r8 p9 r9 p10 r10
        have hCL := sameC_any B W1 (.slice av X.against.length cv) (.slice av' Y.against.length cv') X Y (by have := HBW.out.size; omega) HS1.out HS2.out HOKX.out HOKY.out
        have HCL := Lib.hid hCL
        clear hCL
        go_wp2_with fail
        refine HCL.out.mono ?_
        rintro e w5 ⟨rfl, hb5⟩
        have HB5 : Hid (Below w.heap.size w w5) := Lib.hid (HBW.out.trans (hb5.mono HBW.out.size))
        clear hb5 p0 r0 p1 r1 p2 r2 p3 r3 p4 r4 p5 r5 p6 r6 p7 r7 p8 r8 p9 r9 p10 r10
        cases hE : sameW X Y with
        | true =>
          have HXY : Hid (X = Y) := Lib.hid (by unfold sameW at hE; simpa using hE)
          clear hE
          go_wp2
          go_roundw
          case rel => exact ⟨k + 1, by omega, by go_num, by rw [HT1.out, HT2.out, HN.out, HXY.out], HB5.out⟩
          case measure => simp [intOf]; omega
        | false =>
          have hXY : X ≠ Y := by unfold sameW at hE; simpa using hE
          have HF : Hid (sameWs xs ys = false) := Lib.hid (by unfold sameWs; rw [decide_eq_false]; rintro rfl; exact hXY (by rw [← HX.out, ← HY.out]))
          clear hXY hE
          go_wp2
          go_ret
          exact ⟨by rw [HF.out]; rfl, HB5.out⟩
      · have HT : Hid (sameWs xs ys = true) := Lib.hid (by
          have h := HN.out
          rw [List.take_of_length_le (by omega), List.take_of_length_le (by have := HL.out; omega)] at h
          unfold sameWs; rw [decide_eq_true h])
        go_wp2
        go_ret
        exact ⟨by rw [HT.out]; rfl, HD.out⟩
  · have HT : Hid (sameWs xs ys = false) := Lib.hid (by unfold sameWs; rw [decide_eq_false]; rintro rfl; exact hl rfl)
    have hne2 : ((xs.length : Int) != (ys.length : Int)) = true := by simp; omega
    clear hl
    go_enter Tryd.func34, Tryd.ntmps34
    go_wp2
    go_ret
    exact ⟨by rw [HT.out]; rfl, Below.refl _ _⟩

set_option maxRecDepth 100000 in
theorem same17_any (B : Nat) (w : World) (v v' : Value) (xs ys : List WishD) (hB : B ≤ w.heap.size) (hv : IsWishes B w v xs) (hv' : IsWishes B w v' ys) :
    Calls Tryd.prog 17 #[v, v'] w fun e w' => e = .returned (.bool (sameWs xs ys)) ∧ Below w.heap.size w w' := by
  obtain ⟨a, c, rfl, hc1, hc2, hc3⟩ := hv.form
  obtain ⟨a', c', rfl, hd1, hd2, hd3⟩ := hv'.form
  have HC := Lib.hid (eqfuncW_any B w _ _ xs ys hB hv hv')
  clear hv hv'
  go_enter Tryd.func17, Tryd.ntmps17
  go_wp2_with fail
  refine HC.out.mono ?_
  rintro e w1 ⟨rfl, hb⟩
  have HB := Lib.hid hb
  clear hb
  go_wp2
  go_ret
  exact ⟨rfl, HB.out⟩
end Go.Proofs.YtfnmidddgjlipaaDoor
