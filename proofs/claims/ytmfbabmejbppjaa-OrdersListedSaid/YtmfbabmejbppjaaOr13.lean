/-
  Layer 18: the walks of frankingref18.SameInts, SameOrder, Same, FewNames, Few (printed by tools/gen13.py).
-/
import Derived.Test.YtmfbabmejbppjaaOr12
import Derived.StillTailTactics
set_option linter.unusedVariables false
set_option linter.unusedSimpArgs false
namespace Go.Proofs.Ytmfbabmejbppjaa
open Go.RowKit

def sameI (xs ys : List Int) : Bool := decide (xs = ys)
theorem take_nth {xs : List Int} {k : Nat} (h : k < xs.length) : xs.take (k + 1) = xs.take k ++ [nth xs k] := by rw [List.take_succ_eq_append_getElem h, nth_eq_getElem h]

set_option maxHeartbeats 1000000 in
set_option maxRecDepth 100000 in
theorem rsints_any (B : Nat) (w : World) (v v' : Value) (xs ys : List Int) (hv : IsInts B w v xs) (hv' : IsInts B w v' ys) :
    Calls Try.prog 23 #[v, v'] w fun e w' => e = .returned (.bool (sameI xs ys)) ∧ Drew w w' := by
  obtain ⟨b, off, cap, ⟨a, rfl, hcap, hmax, ha⟩, hlen, hz, hc⟩ := hv
  obtain ⟨b', off', cap', ⟨a', rfl, hcap', hmax', ha'⟩, hlen', hz', hc'⟩ := hv'
  by_cases hl : xs.length = ys.length
  · have HL := Lib.hid hl
    have hne2 : ((xs.length : Int) != (ys.length : Int)) = false := by rw [hl]; simp
    clear hl
    go_enter Try.func23, Try.ntmps23
    go_wp2
    go_loopw [5] (fun i wr => ∃ k : Nat, k ≤ xs.length ∧ i = .int .i64 k ∧ xs.take k = ys.take k ∧ Drew w wr) (fun i _ => xs.length - (intOf i).toNat)
    case atStart => exact ⟨0, by omega, rfl, rfl, Drew.refl _⟩
    case round =>
      obtain ⟨k, hk, rfl, hno, hd⟩ := hrel
      have HN := Lib.hid hno
      have HD := Lib.hid hd
      clear hno hd
      by_cases hlt : k < xs.length
      · have hlt' : k < ys.length := by rw [← HL.out]; exact hlt
        obtain rfl : a = some ⟨b, off, none⟩ := by rcases ha with ha | ha; exact ha; omega
        obtain rfl : a' = some ⟨b', off', none⟩ := by rcases ha' with ha | ha; exact ha; omega
        have hcell := (HD.out.cell _).trans (hc k hlt).2
        have hcell' := (HD.out.cell _).trans (hc' k hlt').2
        clear ha ha' hc hc'
        go_wp2
        go_quiet (fail)
        by_cases he : nth xs k = nth ys k
        · have HT : Hid (xs.take (k + 1) = ys.take (k + 1)) := Lib.hid (by rw [take_nth hlt, take_nth hlt', HN.out, he])
          have he' : (nth xs k != nth ys k) = false := by simpa using he
          clear he
          go_wp2
          go_roundw
          case rel => exact ⟨k + 1, by omega, by go_num, HT.out, HD.out.drewN _⟩
          case measure => simp [intOf]; omega
        · have HT : Hid (sameI xs ys = false) := Lib.hid (by unfold sameI; rw [decide_eq_false]; rintro rfl; exact he rfl)
          have he' : (nth xs k != nth ys k) = true := by simpa using he
          clear he
          go_wp2
          go_ret
          exact ⟨by rw [HT.out]; rfl, HD.out.drewN _⟩
      · have HT : Hid (sameI xs ys = true) := Lib.hid (by
          have h := HN.out
          rw [List.take_of_length_le (by omega), List.take_of_length_le (by have := HL.out; omega)] at h
          unfold sameI; rw [decide_eq_true h])
        clear hc hc'
        go_wp2
        go_ret
        exact ⟨by rw [HT.out]; rfl, HD.out⟩
  · have HT : Hid (sameI xs ys = false) := Lib.hid (by unfold sameI; rw [decide_eq_false]; rintro rfl; exact hl rfl)
    have hne2 : ((xs.length : Int) != (ys.length : Int)) = true := by simp; omega
    clear hl hc hc'
    go_enter Try.func23, Try.ntmps23
    go_wp2
    go_ret
    exact ⟨by rw [HT.out]; rfl, Drew.refl _⟩

def sameO (a b : OrderD) : Bool := decide (a = b)
set_option maxHeartbeats 4000000 in
set_option maxRecDepth 100000 in
theorem rsorder_any (B : Nat) (w : World) (va vb : Value) (a b : OrderD) (hB : B ≤ w.heap.size) (hv : IsInts B w va a.against) (hv' : IsInts B w vb b.against) :
    Calls Try.prog 20 #[orderV va a, orderV vb b] w fun e w' => e = .returned (.bool (sameO a b)) ∧ Below w.heap.size w w' := by
  obtain ⟨b1, o1, c1, ⟨a1, e1, h11, h12, h13⟩, h14⟩ := id hv
  subst e1
  obtain ⟨b2, o2, c2, ⟨a2, e2, h21, h22, h23⟩, h24⟩ := id hv'
  subst e2
  obtain ⟨b0, hb0⟩ : ∃ b, w.heap.size = b := ⟨_, rfl⟩
  obtain ⟨W1, hW1⟩ : ∃ W, (w.alloc (.cells (orderC (.slice a1 a.against.length c1) a).toArray 38)).alloc (.cells (orderC (.slice a2 b.against.length c2) b).toArray 38) = W := ⟨_, rfl⟩
  have HB1 : Hid (Below w.heap.size w W1) := Lib.hid (by rw [← hW1]; exact (box_below' w _).alloc (by simp) _)
  have HX1 : Hid (Box W1 b0 (orderC (.slice a1 a.against.length c1) a).toArray) := Lib.hid (by rw [← hW1, ← hb0]; exact (Box.new _ _ _).alloc _)
  have HY1 : Hid (Box W1 (b0 + 1) (orderC (.slice a2 b.against.length c2) b).toArray) := Lib.hid (by
    rw [← hW1, ← hb0]
    have := Box.new (w.alloc (.cells (orderC (.slice a1 a.against.length c1) a).toArray 38)) (orderC (.slice a2 b.against.length c2) b).toArray 38
    rw [World.size_alloc] at this
    exact this)
  have HI1 := Lib.hid (hv.below HB1.out hB)
  have HI2 := Lib.hid (hv'.below HB1.out hB)
  have HW1 := Lib.hid hW1
  clear hv hv' h14 h24 h13 h23 hW1
  unfold orderV orderC
  unfold orderC at HW1
  go_enter Try.func20, Try.ntmps20
  go_upto_region 1 with fail
  rw [HW1.out]
  try rw [hb0]
  clear HW1 hb0
  obtain ⟨_, xr⟩ := HX1.out
  obtain ⟨_, yr⟩ := HY1.out
  have x0 := xr 0
  have y0 := yr 0
  have x1 := xr 1
  have y1 := yr 1
  have x2 := xr 2
  have y2 := yr 2
  have x3 := xr 3
  have y3 := yr 3
  have x4 := xr 4
  have y4 := yr 4
  have x5 := xr 5
  have y5 := yr 5
  have x6 := xr 6
  have y6 := yr 6
  have x7 := xr 7
  have y7 := yr 7
  have x8 := xr 8
  have y8 := yr 8
  have x9 := xr 9
  have y9 := yr 9
  have x10 := xr 10
  have y10 := yr 10
  simp [orderC] at x0 y0 x1 y1 x2 y2 x3 y3 x4 y4 x5 y5 x6 y6 x7 y7 x8 y8 x9 y9 x10 y10
  clear xr yr
  have HNO : Hid (∀ h : a ≠ b, sameO a b = false) := Lib.hid (fun h => by unfold sameO; rw [decide_eq_false h])
  by_cases q0 : a.frm = b.frm
  rotate_left
  · have HT := Lib.hid (HNO.out (fun e => q0 (by rw [e])))
    have r0 : (a.frm != b.frm) = true := by simpa using q0
    clear q0
    go_wp2
    go_ret
    exact ⟨by rw [HT.out]; rfl, HB1.out⟩
  have r0 : (a.frm != b.frm) = false := by simpa using q0
  have Q0 := Lib.hid q0
  clear q0
  by_cases q1 : a.person = b.person
  rotate_left
  · have HT := Lib.hid (HNO.out (fun e => q1 (by rw [e])))
    have r1 : (a.person != b.person) = true := by simpa using q1
    clear q1
    go_wp2
    go_ret
    exact ⟨by rw [HT.out]; rfl, HB1.out⟩
  have r1 : (a.person != b.person) = false := by simpa using q1
  have Q1 := Lib.hid q1
  clear q1
  by_cases q2 : a.dest = b.dest
  rotate_left
  · have HT := Lib.hid (HNO.out (fun e => q2 (by rw [e])))
    have r2 : (a.dest != b.dest) = true := by simpa using q2
    clear q2
    go_wp2
    go_ret
    exact ⟨by rw [HT.out]; rfl, HB1.out⟩
  have r2 : (a.dest != b.dest) = false := by simpa using q2
  have Q2 := Lib.hid q2
  clear q2
  by_cases q3 : a.cls = b.cls
  rotate_left
  · have HT := Lib.hid (HNO.out (fun e => q3 (by rw [e])))
    have r3 : (a.cls != b.cls) = true := by simpa using q3
    clear q3
    go_wp2
    go_ret
    exact ⟨by rw [HT.out]; rfl, HB1.out⟩
  have r3 : (a.cls != b.cls) = false := by simpa using q3
  have Q3 := Lib.hid q3
  clear q3
  by_cases q4 : a.after = b.after
  rotate_left
  · have HT := Lib.hid (HNO.out (fun e => q4 (by rw [e])))
    have r4 : (a.after != b.after) = true := by simpa using q4
    clear q4
    go_wp2
    go_ret
    exact ⟨by rw [HT.out]; rfl, HB1.out⟩
  have r4 : (a.after != b.after) = false := by simpa using q4
  have Q4 := Lib.hid q4
  clear q4
  by_cases q5 : a.by_ = b.by_
  rotate_left
  · have HT := Lib.hid (HNO.out (fun e => q5 (by rw [e])))
    have r5 : (a.by_ != b.by_) = true := by simpa using q5
    clear q5
    go_wp2
    go_ret
    exact ⟨by rw [HT.out]; rfl, HB1.out⟩
  have r5 : (a.by_ != b.by_) = false := by simpa using q5
  have Q5 := Lib.hid q5
  clear q5
  by_cases q6 : a.crowd = b.crowd
  rotate_left
  · have HT := Lib.hid (HNO.out (fun e => q6 (by rw [e])))
    have r6 : (a.crowd == b.crowd) = false := by simpa using q6
    clear q6
    go_wp2
    go_ret
    exact ⟨by rw [HT.out]; rfl, HB1.out⟩
  have r6 : (a.crowd == b.crowd) = true := by simpa using q6
  have Q6 := Lib.hid q6
  clear q6
  by_cases q7 : a.pay = b.pay
  rotate_left
  · have HT := Lib.hid (HNO.out (fun e => q7 (by rw [e])))
    have r7 : (a.pay == b.pay) = false := by simpa using q7
    clear q7
    go_wp2
    go_ret
    exact ⟨by rw [HT.out]; rfl, HB1.out⟩
  have r7 : (a.pay == b.pay) = true := by simpa using q7
  have Q7 := Lib.hid q7
  clear q7
  by_cases q9 : a.back = b.back
  rotate_left
  · have HT := Lib.hid (HNO.out (fun e => q9 (by rw [e])))
    have r9 : (a.back == b.back) = false := by simpa using q9
    clear q9
    go_wp2
    go_ret
    exact ⟨by rw [HT.out]; rfl, HB1.out⟩
  have r9 : (a.back == b.back) = true := by simpa using q9
  have Q9 := Lib.hid q9
  clear q9
  by_cases q10 : a.els = b.els
  rotate_left
  · have HT := Lib.hid (HNO.out (fun e => q10 (by rw [e])))
    have r10 : (a.els == b.els) = false := by simpa using q10
    clear q10
    go_wp2
    go_ret
    exact ⟨by rw [HT.out]; rfl, HB1.out⟩
  have r10 : (a.els == b.els) = true := by simpa using q10
  have Q10 := Lib.hid q10
  clear q10
  have HT : Hid (sameO a b = sameI a.against b.against) := Lib.hid (by
    unfold sameO sameI
    rw [decide_eq_decide]
    constructor
    · intro e; rw [e]
    · intro e
      obtain ⟨p0, p1, p2, p3, p4, p5, p6, p7, p8, p9, p10⟩ := a
      obtain ⟨s0, s1, s2, s3, s4, s5, s6, s7, s8, s9, s10⟩ := b
      simp only [OrderD.mk.injEq]
      exact ⟨Q0.out, Q1.out, Q2.out, Q3.out, Q4.out, Q5.out, Q6.out, Q7.out, e, Q9.out, Q10.out⟩)
  go_wp2_with fail
  refine (rsints_any _ W1 _ _ _ _ HI1.out HI2.out).mono ?_
  rintro e w2 ⟨rfl, hd⟩
  have HD := Lib.hid hd
  clear hd
  go_wp2
  go_ret
  exact ⟨by rw [HT.out]; rfl, HB1.out.trans (HD.out.below _)⟩

def sameOs (xs ys : List OrderD) : Bool := decide (xs = ys)
theorem take_order {xs : List OrderD} {k : Nat} (h : k < xs.length) : xs.take (k + 1) = xs.take k ++ [orderAt xs k] := by rw [List.take_succ_eq_append_getElem h, orderAt_get h]
set_option maxHeartbeats 4000000 in
set_option maxRecDepth 100000 in
theorem rsame_any (B : Nat) (w : World) (v v' : Value) (xs ys : List OrderD) (hB : B ≤ w.heap.size) (hv : IsOrders B w v xs) (hv' : IsOrders B w v' ys) :
    Calls Try.prog 16 #[v, v'] w fun e w' => e = .returned (.bool (sameOs xs ys)) ∧ Below w.heap.size w w' := by
  obtain ⟨a, c, rfl, hc1, hc2, hc3⟩ := hv.form
  obtain ⟨a', c', rfl, hd1, hd2, hd3⟩ := hv'.form
  have HV := Lib.hid hv
  have HV' := Lib.hid hv'
  clear hv hv'
  by_cases hl : xs.length = ys.length
  · have HL := Lib.hid hl
    have hne2 : ((xs.length : Int) != (ys.length : Int)) = false := by rw [hl]; simp
    clear hl
    go_enter Try.func16, Try.ntmps16
    go_wp2
    go_loopw [5] (fun i wr => ∃ k : Nat, k ≤ xs.length ∧ i = .int .i64 k ∧ xs.take k = ys.take k ∧ Below w.heap.size w wr) (fun i _ => xs.length - (intOf i).toNat)
    case atStart => exact ⟨0, by omega, rfl, rfl, Below.refl _ _⟩
    case round =>
      obtain ⟨k, hk, rfl, hno, hd⟩ := hrel
      have HN := Lib.hid hno
      have HD := Lib.hid hd
      have hsz := hd.size
      clear hno hd
      by_cases hlt : k < xs.length
      · have hlt' : k < ys.length := by rw [← HL.out]; exact hlt
        obtain ⟨b, off, va, rfl, bb, hst, hok, g0, g1, g2, g3, g4, g5, g6, g7, g8, g9, g10⟩ := IsOrders.cell (HV.out.below orderK HD.out hB) hlt
        obtain ⟨b', off', va', rfl, bb', hst', hok', k0, k1, k2, k3, k4, k5, k6, k7, k8, k9, k10⟩ := IsOrders.cell (HV'.out.below orderK HD.out hB) hlt'
        have hst2 := hst
        obtain ⟨bv, ov, cv, ⟨av, rfl, _, _, _⟩, _⟩ := hst2
        have hst2 := hst'
        obtain ⟨bv', ov', cv', ⟨av', rfl, _, _, _⟩, _⟩ := hst2
        have HT1 := Lib.hid (take_order hlt)
        have HT2 := Lib.hid (take_order hlt')
        obtain ⟨X, hX⟩ : ∃ X, orderAt xs k = X := ⟨_, rfl⟩
        obtain ⟨Y, hY⟩ : ∃ Y, orderAt ys k = Y := ⟨_, rfl⟩
        have HX := Lib.hid hX
        have HY := Lib.hid hY
        rw [hX] at hst HT1 g0 g1 g2 g3 g4 g5 g6 g7 g8 g9 g10
        rw [hY] at hst' HT2 k0 k1 k2 k3 k4 k5 k6 k7 k8 k9 k10
        have HS1 := Lib.hid (hst.below (Drew.refl wr |>.drewN 1 |>.below _) (Nat.le_refl _))
        have HS2 := Lib.hid (hst'.below (Drew.refl wr |>.drewN 1 |>.below _) (Nat.le_refl _))
        clear hX hY hst hst' hok hok'
        go_wp2
        go_still_tail 8, (by kernel_rfl)
        change wpList _ _ _ _ _ wr.drew
        clear g0 g1 g2 g3 g4 g5 g6 g7 g8 g9 g10 k0 k1 k2 k3 k4 k5 k6 k7 k8 k9 k10
        cases hE : sameO X Y with
        | true =>
          have HE := Lib.hid hE
          clear hE
          have HXY : Hid (X = Y) := Lib.hid (by have := HE.out; unfold sameO at this; simpa using this)
          go_wp2_with (go_at_call 20; refine (rsorder_any B wr.drew _ _ X Y (by show B ≤ wr.heap.size; omega) HS1.out HS2.out).mono ?_; rintro e w5 ⟨rfl, hb5⟩; have HB5 : Hid (Below w.heap.size w w5) := Lib.hid (HD.out.trans ((Drew.refl wr |>.drewN 1 |>.below _).trans (hb5.mono hsz))); clear hb5; rw [HE.out])
          go_roundw
          case rel => exact ⟨k + 1, by omega, by go_num, by rw [HT1.out, HT2.out, HN.out, HXY.out], HB5.out⟩
          case measure => simp [intOf]; omega
        | false =>
          have HE := Lib.hid hE
          clear hE
          have hXY : X ≠ Y := by have := HE.out; unfold sameO at this; simpa using this
          have HF : Hid (sameOs xs ys = false) := Lib.hid (by unfold sameOs; rw [decide_eq_false]; rintro rfl; exact hXY (by rw [← HX.out, ← HY.out]))
          clear hXY
          go_wp2_with (go_at_call 20; refine (rsorder_any B wr.drew _ _ X Y (by show B ≤ wr.heap.size; omega) HS1.out HS2.out).mono ?_; rintro e w5 ⟨rfl, hb5⟩; have HB5 : Hid (Below w.heap.size w w5) := Lib.hid (HD.out.trans ((Drew.refl wr |>.drewN 1 |>.below _).trans (hb5.mono hsz))); clear hb5; rw [HE.out])
          go_ret
          exact ⟨by rw [HF.out]; rfl, HB5.out⟩
      · have HT : Hid (sameOs xs ys = true) := Lib.hid (by
          have h := HN.out
          rw [List.take_of_length_le (by omega), List.take_of_length_le (by have := HL.out; omega)] at h
          unfold sameOs; rw [decide_eq_true h])
        go_wp2
        go_ret
        exact ⟨by rw [HT.out]; rfl, HD.out⟩
  · have HT : Hid (sameOs xs ys = false) := Lib.hid (by unfold sameOs; rw [decide_eq_false]; rintro rfl; exact hl rfl)
    have hne2 : ((xs.length : Int) != (ys.length : Int)) = true := by simp; omega
    clear hl
    go_enter Try.func16, Try.ntmps16
    go_wp2
    go_ret
    exact ⟨by rw [HT.out]; rfl, Below.refl _ _⟩

def fewN (n : NamesD) : Bool := decide (n.offices.length ≤ 40) && decide (n.people.length ≤ 60) && decide (n.classes.length ≤ 20) && decide (n.homes.length ≤ 70)
set_option maxHeartbeats 2000000 in
set_option maxRecDepth 100000 in
theorem fewnames_any (B : Nat) (w : World) (v : NamesV) (n : NamesD) (hv : IsNames B w v n) :
    Calls Try.prog 10 #[v.agg] w fun e w' => e = .returned (.bool (fewN n)) ∧ Below w.heap.size w w' := by
  obtain ⟨vo, vp, vc, vh⟩ := v
  obtain ⟨ao, co, e, ho1, ho2, ho3⟩ := hv.o.form
  simp only at e; subst e
  obtain ⟨ap, cp, e, hp1, hp2, hp3⟩ := hv.p.form
  simp only at e; subst e
  obtain ⟨ac, cc, e, hc1, hc2, hc3⟩ := hv.c.form
  simp only at e; subst e
  obtain ⟨bh, oh, ch, ⟨ah, e, hh1, hh2, hh4⟩, hh3, hh5, hh6⟩ := hv.h
  simp only at e; subst e
  have HB := Lib.hid (box_below' w (.cells #[.slice ao n.offices.length co, .slice ap n.people.length cp, .slice ac n.classes.length cc, .slice ah n.homes.length ch] 25))
  clear hv hh5 hh6
  unfold NamesV.agg
  obtain ⟨l0, h0⟩ : ∃ l, n.offices.length = l := ⟨_, rfl⟩
  obtain ⟨l1, h1⟩ : ∃ l, n.people.length = l := ⟨_, rfl⟩
  obtain ⟨l2, h2⟩ : ∃ l, n.classes.length = l := ⟨_, rfl⟩
  obtain ⟨l3, h3⟩ : ∃ l, n.homes.length = l := ⟨_, rfl⟩
  have HF : Hid (fewN n = (decide (l0 ≤ 40) && decide (l1 ≤ 60) && decide (l2 ≤ 20) && decide (l3 ≤ 70))) := Lib.hid (by unfold fewN; rw [h0, h1, h2, h3])
  simp only [h0, h1, h2, h3] at *
  clear h0 h1 h2 h3
  by_cases c0 : l0 ≤ 40
  rotate_left
  · have HT : Hid (fewN n = false) := Lib.hid (by rw [HF.out, decide_eq_false c0]; rfl)
    have c0' : (40 : Int) < l0 := by omega
    clear c0
    go_enter Try.func10, Try.ntmps10
    go_wp2
    go_ret
    exact ⟨ret_bool' HT.out, HB.out⟩
  by_cases c1 : l1 ≤ 60
  rotate_left
  · have HT : Hid (fewN n = false) := Lib.hid (by rw [HF.out, decide_eq_false c1]; simp)
    have c0' : (l0 : Int) ≤ 40 := by omega
    have c1' : (60 : Int) < l1 := by omega
    clear c0 c1
    go_enter Try.func10, Try.ntmps10
    go_wp2
    go_ret
    exact ⟨ret_bool' HT.out, HB.out⟩
  by_cases c2 : l2 ≤ 20
  rotate_left
  · have HT : Hid (fewN n = false) := Lib.hid (by rw [HF.out, decide_eq_false c2]; simp)
    have c0' : (l0 : Int) ≤ 40 := by omega
    have c1' : (l1 : Int) ≤ 60 := by omega
    have c2' : (20 : Int) < l2 := by omega
    clear c0 c1 c2
    go_enter Try.func10, Try.ntmps10
    go_wp2
    go_ret
    exact ⟨ret_bool' HT.out, HB.out⟩
  by_cases c3 : l3 ≤ 70
  · have HT : Hid (fewN n = true) := Lib.hid (by rw [HF.out, decide_eq_true c0, decide_eq_true c1, decide_eq_true c2, decide_eq_true c3]; rfl)
    have c0' : (l0 : Int) ≤ 40 := by omega
    have c1' : (l1 : Int) ≤ 60 := by omega
    have c2' : (l2 : Int) ≤ 20 := by omega
    have c3' : (l3 : Int) ≤ 70 := by omega
    clear c0 c1 c2 c3
    go_enter Try.func10, Try.ntmps10
    go_wp2
    go_ret
    exact ⟨ret_bool' HT.out, HB.out⟩
  · have HT : Hid (fewN n = false) := Lib.hid (by rw [HF.out, decide_eq_false c3]; simp)
    have c0' : (l0 : Int) ≤ 40 := by omega
    have c1' : (l1 : Int) ≤ 60 := by omega
    have c2' : (l2 : Int) ≤ 20 := by omega
    have c3' : (70 : Int) < l3 := by omega
    clear c0 c1 c2 c3
    go_enter Try.func10, Try.ntmps10
    go_wp2
    go_ret
    exact ⟨ret_bool' (by rw [HT.out]; symm; rw [decide_eq_false_iff_not]; omega), HB.out⟩

def fewL (l : List WishD) : Bool := (l.take 80).all (fun x => decide (x.against.length ≤ 40)) && decide (l.length ≤ 70)
theorem fewL_not {l : List WishD} {k : Nat} (hk : k < l.length) (h8 : k < 80) (h : ¬ (wishAt l k).against.length ≤ 40) : fewL l = false := by
  unfold fewL
  rw [Bool.and_eq_false_iff]
  left
  rw [List.all_eq_false]
  refine ⟨wishAt l k, ?_, by simpa using h⟩
  rw [wishAt_get hk]
  exact List.mem_take_iff_getElem.2 ⟨k, by omega, rfl⟩
theorem fewL_len {l : List WishD} (h : ∀ j, j < l.length → j < 80 → (wishAt l j).against.length ≤ 40) : fewL l = decide (l.length ≤ 70) := by
  unfold fewL
  have : (l.take 80).all (fun x => decide (x.against.length ≤ 40)) = true := by
    rw [List.all_eq_true]
    intro x hx
    obtain ⟨j, hj, rfl⟩ := List.mem_take_iff_getElem.1 hx
    have := h j (by omega) (by omega)
    rw [wishAt_get (by omega)] at this
    simpa using this
  rw [this, Bool.true_and]
theorem fewL_of {l : List WishD} (h : fewL l = true) : l.length ≤ 70 ∧ ∀ j, j < l.length → (wishAt l j).against.length ≤ 40 := by
  unfold fewL at h
  rw [Bool.and_eq_true, List.all_eq_true, decide_eq_true_iff] at h
  refine ⟨h.2, fun j hj => ?_⟩
  have := h.1 (wishAt l j) (by rw [wishAt_get hj]; exact List.mem_take_iff_getElem.2 ⟨j, by have := h.2; omega, rfl⟩)
  simpa using this
set_option maxHeartbeats 2000000 in
set_option maxRecDepth 100000 in
theorem few_any (B : Nat) (w : World) (v : Value) (l : List WishD) (hv : IsWishes B w v l) :
    Calls Try.prog 11 #[v] w fun e w' => e = .returned (.bool (fewL l)) ∧ w' = w := by
  obtain ⟨a, c, rfl, hc1, hc2, hc3⟩ := hv.form
  have HV := Lib.hid hv
  clear hv
  go_enter Try.func11, Try.ntmps11
  go_wp2
  go_loop [3] (fun i => ∃ k : Nat, k ≤ l.length ∧ k ≤ 80 ∧ i = .int .i64 k ∧ ∀ j, j < k → (wishAt l j).against.length ≤ 40) (fun i => l.length - (intOf i).toNat)
  case atStart => exact ⟨0, by omega, by omega, rfl, fun j hj => by omega⟩
  case round =>
    obtain ⟨k, hk, hk8, rfl, hall⟩ := hrel
    have HA := Lib.hid hall
    clear hall
    by_cases hlt : k < l.length
    · by_cases h8 : k < 80
      · obtain ⟨b, off, va, rfl, bb, hst, hok, g0, g1, g2, g3, g4, g5, g6, g7, g8, g9, g10⟩ := IsWishes.cell HV.out hlt
        obtain ⟨aa, ca, rfl, ha1, ha2, ha3⟩ := hst.form
        have HNO := Lib.hid (fun h => fewL_not hlt h8 h)
        clear g0 g1 g2 g3 g4 g5 g6 g7 g9 g10 hst hok
        obtain ⟨m, hm⟩ : ∃ m, (wishAt l k).against.length = m := ⟨_, rfl⟩
        have HM := Lib.hid hm
        rw [hm] at g8 HNO
        clear hm ha1 ha3
        have h8' : (k : Int) < 80 := by omega
        by_cases hm40 : m ≤ 40
        · have hm' : (m : Int) ≤ 40 := by omega
          clear hm40
          go_wp2
          go_round
          case rel =>
            refine ⟨k + 1, by omega, by omega, by go_num, fun j hj => ?_⟩
            by_cases hjk : j < k
            · exact HA.out j hjk
            · obtain rfl : j = k := by omega
              rw [HM.out]; omega
          case measure => simp [intOf]; omega
        · have HT := Lib.hid (HNO.out hm40)
          have hm' : (40 : Int) < m := by omega
          clear hm40
          go_wp2
          go_ret
          exact ⟨ret_bool' HT.out, rfl⟩
      · have HT : Hid (fewL l = false) := Lib.hid (by unfold fewL; rw [Bool.and_eq_false_iff]; right; rw [decide_eq_false]; omega)
        have h8' : (80 : Int) ≤ k := by omega
        have h70 : (70 : Int) < (l.length : Int) := by omega
        clear h8
        go_wp2
        go_ret
        exact ⟨ret_bool' (by rw [HT.out]; symm; rw [decide_eq_false_iff_not]; omega), rfl⟩
    · have HT : Hid (fewL l = decide (l.length ≤ 70)) := Lib.hid (fewL_len fun j hj _ => HA.out j (by omega))
      by_cases h70 : l.length ≤ 70
      · have HT2 : Hid (fewL l = true) := Lib.hid (by rw [HT.out, decide_eq_true h70])
        have h70' : (l.length : Int) ≤ 70 := by omega
        clear h70
        go_wp2
        go_ret
        exact ⟨ret_bool' HT2.out, rfl⟩
      · have HT2 : Hid (fewL l = false) := Lib.hid (by rw [HT.out, decide_eq_false h70])
        have h70' : (70 : Int) < (l.length : Int) := by omega
        clear h70
        go_wp2
        go_ret
        exact ⟨ret_bool' (by rw [HT2.out]; symm; rw [decide_eq_false_iff_not]; omega), rfl⟩
end Go.Proofs.Ytmfbabmejbppjaa
