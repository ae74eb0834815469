/-
  Layer 18: the walk of frankingref18.Resolve (printed by tools/gen17.py).
-/
import Derived.Test.YtmfbabmejbppjaaOr16
import Derived.Test.YtmfbabmejbppjaaOr13
import Derived.Test.YtmfbabmejbppjaaOr6
import Derived.Test.YtmfbabmejbppjaaOr7
set_option linter.unusedVariables false
set_option linter.unusedSimpArgs false
namespace Go.Proofs.Ytmfbabmejbppjaa
open Go.RowKit

def nameAt (l : List WishD) (k : Nat) : Str := (wishAt l k).name
/-- the names of the first i wishes differ, and the name of wish i from those of the first j -/
def diffTo (l : List WishD) (i : Nat) : Prop := ∀ a, a < i → ∀ b, b < a → nameAt l a ≠ nameAt l b
theorem namesDiff_of {l : List WishD} (h : diffTo l l.length) : namesDiff l = true := by
  unfold namesDiff
  rw [decide_eq_true_iff]
  refine List.pairwise_iff_getElem.2 fun i j hi hj hij he => ?_
  have h1 := h j (by simpa using hj) i hij
  unfold nameAt at h1
  rw [wishAt_get (by simpa using hj), wishAt_get (by simpa using hi)] at h1
  simp at he
  exact h1 he.symm
theorem namesDiff_not {l : List WishD} {a b : Nat} (ha : a < l.length) (hb : b < a) (he : nameAt l a = nameAt l b) : namesDiff l = false := by
  unfold namesDiff
  rw [decide_eq_false_iff_not]
  intro h
  have h1 := (List.pairwise_iff_getElem.1 h) b a (by simp; omega) (by simpa using ha) hb
  unfold nameAt at he
  rw [wishAt_get (by omega), wishAt_get (by omega)] at he
  simp at h1
  exact h1 he.symm
theorem okO_of {n : NamesD} {x : WishD} (hc : checkN n = 0) (hkn : knownB n x = true) (hok : okW x) : okO (orderOf n x) := by
  obtain ⟨n0, n1, n2, n3, n4⟩ := checkN_ok hc
  have hs : n.offices.length ≤ 1000000 ∧ n.people.length ≤ 1000000 ∧ n.classes.length ≤ 1000000 := by
    unfold checkN at hc
    split at hc
    · cases hc
    · rename_i h; simp at h; omega
  unfold knownB at hkn
  simp only [Bool.and_eq_true, decide_eq_true_eq, List.all_eq_true] at hkn
  obtain ⟨⟨⟨hka, hk0⟩, hk1⟩, hk2⟩ := hkn
  have hl0 := idxI_lt (l := n.offices) (s := x.frm)
  have hl1 := idxI_lt (l := n.people) (s := x.to)
  have hl2 := idxI_lt (l := n.classes) (s := x.cls)
  obtain ⟨_, _, _, _, q4, q5, q6, q7, q8⟩ := hok
  refine ⟨?_, ?_, ?_, ?_, q4, q5, q6, q7, q8⟩
  · unfold I64 orderOf; simp only; omega
  · unfold I64 orderOf; simp only; omega
  · unfold orderOf; simp only
    have hlt : (idxI n.people x.to).toNat < n.homes.length := by omega
    rw [List.getD_eq_getElem?_getD, List.getElem?_eq_getElem hlt]
    have := n4 _ (List.getElem_mem hlt)
    unfold I64; simp; omega
  · unfold I64 orderOf; simp only; omega
set_option maxHeartbeats 16000000 in
set_option maxRecDepth 100000 in
theorem rresolve_any (B : Nat) (w : World) (v : NamesV) (n : NamesD) (vl : Value) (l : List WishD) (hB : B ≤ w.heap.size) (hv : IsNames B w v n) (hl : IsWishes B w vl l) (hag : ∀ k, k < l.length → (wishAt l k).against.length ≤ 1000000) :
    Calls Try.prog 13 #[v.agg, vl] w (ResPost n l w) := by
  obtain ⟨vo, vp, vc, vh⟩ := v
  obtain ⟨ao, co, e, ho1, ho2, ho3⟩ := hv.o.form
  simp only at e; subst e
  obtain ⟨ap, cp, e, hp1, hp2, hp3⟩ := hv.p.form
  simp only at e; subst e
  obtain ⟨ac, cc, e, hc1, hc2, hc3⟩ := hv.c.form
  simp only at e; subst e
  obtain ⟨bh, oh, ch, ⟨ah, e, hh1, hh2, hh4⟩, hh3, hh5, hh6⟩ := id hv.h
  simp only at e; subst e
  obtain ⟨aw, cw, e, hw1, hw2, hw3⟩ := hl.form
  subst e
  have HV := Lib.hid hv
  have HL := Lib.hid hl
  have HAG := Lib.hid hag
  obtain ⟨b0, hb0⟩ : ∃ b, w.heap.size = b := ⟨_, rfl⟩
  obtain ⟨W1, hW1⟩ : ∃ W, w.alloc (.cells #[.slice ao n.offices.length co, .slice ap n.people.length cp, .slice ac n.classes.length cc, .slice ah n.homes.length ch] 25) = W := ⟨_, rfl⟩
  have HB1 : Hid (Below w.heap.size w W1) := Lib.hid (by rw [← hW1]; exact box_below' w _)
  have HX1 : Hid (Box W1 b0 #[.slice ao n.offices.length co, .slice ap n.people.length cp, .slice ac n.classes.length cc, .slice ah n.homes.length ch]) := Lib.hid (by rw [← hW1, ← hb0]; exact Box.new _ _ _)
  have HV1 := Lib.hid (hv.below HB1.out hB)
  have HW1 := Lib.hid hW1
  have HB0 := Lib.hid hb0
  clear hv hl hag hh5 hh6 hh4 hW1
  unfold NamesV.agg
  go_enter Try.func13, Try.ntmps13
  go_upto_region 1 with fail
  rw [HW1.out]
  try rw [hb0]
  clear hb0
  obtain ⟨_, xr⟩ := HX1.out
  have x0 := xr 0
  have x1 := xr 1
  have x2 := xr 2
  have x3 := xr 3
  simp at x0 x1 x2 x3
  clear xr
  go_wp2_with fail
  refine (rcheck_any B W1 _ n (by have := HB1.out.size; omega) HV1.out).mono ?_
  rintro e w2 ⟨rfl, hb⟩
  have HB2 : Hid (Below w.heap.size w w2) := Lib.hid (HB1.out.trans (hb.mono HB1.out.size))
  have HX2 := Lib.hid (HX1.out.ext hb)
  clear hb x0 x1 x2 x3
  obtain ⟨E, hE⟩ : ∃ E, checkN n = E := ⟨_, rfl⟩
  rw [hE]
  have HE := Lib.hid hE
  clear hE
  by_cases he : E = 0
  rotate_left
  · have HR := Lib.hid (resE_check (n := n) (l := l) (by rw [HE.out]; exact he))
    have HNE := Lib.hid he
    have hn : (E != 0) = true := by simpa using he
    go_wp2
    go_ret2
    exact ResPost.no (by rw [HR.out, HE.out]) HNE.out HB2.out
  subst he
  by_cases hlen : 64 < l.length
  · have HR := Lib.hid (resE_many HE.out hlen)
    have hlen' : (64 : Int) < (l.length : Int) := by omega
    clear hlen
    go_wp2
    go_ret2
    exact ResPost.no HR.out (by omega) HB2.out
  have HLEN := Lib.hid hlen
  have hlen' : (l.length : Int) ≤ 64 := by omega
  have hlenN : l.length ≤ 64 := by omega
  clear hlen
  go_wp2
  go_loopw [7] (fun iv wr => ∃ i, i ≤ l.length ∧ iv = .int .i64 i ∧ Drew w2 wr ∧ diffTo l i) (fun iv _ => l.length - (intOf iv).toNat)
  case atStart => exact ⟨0, by omega, rfl, Drew.refl _, fun a ha => by omega⟩
  case round =>
    obtain ⟨i, hi, rfl, hd, hdf⟩ := hrel
    have HD := Lib.hid hd
    have HDF := Lib.hid hdf
    clear hd hdf
    by_cases hlt : i < l.length
    · obtain ⟨wA, rfl⟩ : ∃ W, W = wr := ⟨_, rfl⟩
      go_wp2
      go_loopw [8] (fun jv wr => ∃ j, j ≤ i ∧ jv = .int .i64 j ∧ Drew w2 wr ∧ ∀ b, b < j → nameAt l i ≠ nameAt l b) (fun jv _ => i - (intOf jv).toNat)
      case atStart => exact ⟨0, by omega, rfl, HD.out, fun b hb => by omega⟩
      case round =>
        obtain ⟨j, hj, rfl, hd, hall⟩ := hrel
        have HD2 := Lib.hid hd
        have HA := Lib.hid hall
        have HBR : Hid (Below w.heap.size w wr) := Lib.hid (HB2.out.trans (hd.below _))
        clear hd hall
        by_cases hjl : j < i
        · have hjl2 : j < l.length := by omega
          have hL := HL.out.below wishK HBR.out hB
          obtain ⟨b, off, va, rfl, bb, hst, hok, g0, _⟩ := IsWishes.cell hL hlt
          obtain ⟨b', off', va', e', bb', hst', hok', k0, _⟩ := IsWishes.cell hL hjl2
          cases e'
          rw [show (wishAt l i).name = nameAt l i from rfl] at g0
          rw [show (wishAt l j).name = nameAt l j from rfl] at k0
          have HNO := Lib.hid (fun h => namesDiff_not hlt hjl h)
          obtain ⟨s1, hs1⟩ : ∃ s, nameAt l i = s := ⟨_, rfl⟩
          obtain ⟨s2, hs2⟩ : ∃ s, nameAt l j = s := ⟨_, rfl⟩
          have HS1 := Lib.hid hs1
          have HS2 := Lib.hid hs2
          rw [hs1, hs2] at HNO
          rw [hs1] at g0
          rw [hs2] at k0
          clear hs1 hs2 hL hst hok hst' hok'
          by_cases hse : s1 = s2
          · have hseb : (s1 == s2) = true := by simpa using hse
            have HR := Lib.hid (resE_twice HE.out HLEN.out (HNO.out hse))
            clear hse
            go_wp2
            go_quiet (fail)
            go_wp2
            go_ret2
            exact ResPost.no HR.out (by omega) (HBR.out.trans ((Drew.refl wr).drewN _ |>.below _))
          · have hseb : (s1 == s2) = false := by simpa using hse
            have HSE := Lib.hid hse
            clear hse
            go_wp2
            go_quiet (fail)
            go_wp2
            go_roundw
            case rel =>
              refine ⟨j + 1, by omega, by go_num, HD2.out.drewN _, fun b hb => ?_⟩
              by_cases hbj : b < j
              · exact HA.out b hbj
              · obtain rfl : b = j := by omega
                rw [HS1.out, HS2.out]; exact HSE.out
            case measure => simp [intOf]; omega
        · obtain rfl : j = i := by omega
          go_wp2
          go_roundw
          case rel =>
            refine ⟨j + 1, by omega, by go_num, HD2.out, fun a ha b hb => ?_⟩
            by_cases haj : a < j
            · exact HDF.out a haj b hb
            · obtain rfl : a = j := by omega
              exact HA.out b hb
          case measure => simp [intOf]; omega
    · obtain rfl : i = l.length := by omega
      have HND := Lib.hid (namesDiff_of HDF.out)
      have HB3 : Hid (Below w.heap.size w wr) := Lib.hid (HB2.out.trans (HD.out.below _))
      have HX3 := Lib.hid (HX2.out.ext (HD.out.below _))
      obtain ⟨wA, rfl⟩ : ∃ W, W = wr := ⟨_, rfl⟩
      clear HDF HD hlt hi
      go_wp2
      go_loopw [9] (fun iv wr => ∃ k, k ≤ l.length ∧ iv = .int .i64 k ∧ Below wA.heap.size wA wr ∧ ∀ j, j < k → knownB n (wishAt l j) = true) (fun iv _ => l.length - (intOf iv).toNat)
      case atStart => exact ⟨0, by omega, rfl, Below.refl _ _, fun j hj => by omega⟩
      case round =>
        obtain ⟨k, hk, rfl, hbr, hal⟩ := hrel
        have HBR := Lib.hid hbr
        have HAL := Lib.hid hal
        have HBW : Hid (Below w.heap.size w wr) := Lib.hid (HB3.out.trans (hbr.mono HB3.out.size))
        have HXR := Lib.hid (HX3.out.ext hbr)
        have hsz := hbr.size
        clear hbr hal
        by_cases hlt : k < l.length
        · obtain ⟨b, off, va, rfl, bb, hst, hok, g0, g1, g2, g3, g4, g5, g6, g7, g8, g9, g10⟩ := IsWishes.cell (HL.out.below wishK HBW.out hB) hlt
          obtain ⟨aa, ca, rfl, ha1, ha2, ha3⟩ := hst.form
          have HMEM : Hid (wishAt l k ∈ l) := Lib.hid (by rw [wishAt_get hlt]; exact List.getElem_mem hlt)
          obtain ⟨X, hX⟩ : ∃ X, wishAt l k = X := ⟨_, rfl⟩
          have HX := Lib.hid hX
          rw [hX] at hst HMEM ha1 ha3 g0 g1 g2 g3 g4 g5 g6 g7 g8 g9 g10
          clear hX hok
          obtain ⟨_, xr⟩ := HXR.out
          have x0 := xr 0
          have x1 := xr 1
          have x2 := xr 2
          have x3 := xr 3
          simp at x0 x1 x2 x3
          clear xr
          have HCA := Lib.hid (known_any B wr.drew ⟨_, _, _, _⟩ n _ X (by have := HBW.out.size; show B ≤ wr.heap.size; omega) (HV.out.below (HBW.out.trans ((Drew.refl wr).drewN 1 |>.below _)) hB) (hst.below strK ((Drew.refl wr).drewN 1 |>.below B) (Nat.le_refl _)))
          clear hst
          go_wp2
          go_still_tail 5, (by kernel_rfl)
          change wpList _ _ _ _ _ wr.drew
          clear g0 g1 g2 g3 g4 g5 g6 g7 g8 g9 g10 x0 x1 x2 x3
          cases hkn : knownB n X with
          | true =>
            have HKN := Lib.hid hkn
            clear hkn
            go_wp2_with (go_at_call 28; refine HCA.out.mono ?_; rintro e w5 ⟨rfl, hb5⟩; have HB5 : Hid (Below wr.heap.size wr w5) := Lib.hid (((Drew.refl wr).drewN 1 |>.below _).trans hb5); clear hb5; rw [HKN.out])
            go_roundw
            case rel =>
              refine ⟨k + 1, by omega, by go_num, HBR.out.trans (HB5.out.mono hsz), fun j hj => ?_⟩
              by_cases hjk : j < k
              · exact HAL.out j hjk
              · obtain rfl : j = k := by omega
                rw [HX.out]; exact HKN.out
            case measure => simp [intOf]; omega
          | false =>
            have HKN := Lib.hid hkn
            have HR := Lib.hid (resE_known HE.out HLEN.out HND.out (by
              rw [List.all_eq_false]
              exact ⟨X, HMEM.out, by rw [hkn]; simp⟩))
            clear hkn
            go_wp2_with (go_at_call 28; refine HCA.out.mono ?_; rintro e w5 ⟨rfl, hb5⟩; have HB5 : Hid (Below wr.heap.size wr w5) := Lib.hid (((Drew.refl wr).drewN 1 |>.below _).trans hb5); clear hb5; rw [HKN.out])
            go_ret2
            exact ResPost.no HR.out (by omega) (HBW.out.trans (HB5.out.mono HBW.out.size))
        · obtain rfl : k = l.length := by omega
          have HKA : Hid (l.all (knownB n) = true) := Lib.hid (by
            rw [List.all_eq_true]
            intro x hx
            obtain ⟨j, hj, rfl⟩ := List.getElem_of_mem hx
            have := HAL.out j hj
            rwa [wishAt_get hj] at this)
          have HX5 := Lib.hid (HX3.out.ext HBR.out)
          obtain ⟨wB, rfl⟩ : ∃ W, W = wr := ⟨_, rfl⟩
          clear HAL hlt hk
          go_wp2
          go_loopw [10, 11] (fun xv iv wr => ∃ k, k ≤ l.length ∧ iv = .int .i64 k ∧ OwnOrds wB.heap.size wr xv ((l.take k).map (orderOf n)) ∧ Below wB.heap.size wB wr ∧ ((l.take k).map (orderOf n)).all (rightN n) = true) (fun _ iv _ => l.length - (intOf iv).toNat)
          case atStart => exact ⟨0, by omega, rfl, OwnDeep.nil, Below.refl _ _, rfl⟩
          case round =>
            obtain ⟨k, hk, rfl, ho, hbr, hal⟩ := hrel
            obtain ⟨ax, nx, cx, rfl⟩ := ho.form'
            have HO := Lib.hid ho
            have HBR2 := Lib.hid hbr
            have HAL := Lib.hid hal
            have HBQ : Hid (Below w.heap.size w wr) := Lib.hid (HBW.out.trans (hbr.mono HBW.out.size))
            have HXR2 := Lib.hid (HX5.out.ext hbr)
            have hsz2 := hbr.size
            clear ho hbr hal
            by_cases hlt : k < l.length
            · obtain ⟨b, off, va, rfl, bb, hst, hok, g0, g1, g2, g3, g4, g5, g6, g7, g8, g9, g10⟩ := IsWishes.cell (HL.out.below wishK HBQ.out hB) hlt
              obtain ⟨aa, ca, rfl, ha1, ha2, ha3⟩ := hst.form
              have HTK : Hid ((l.take (k + 1)) = l.take k ++ [wishAt l k]) := Lib.hid (by rw [List.take_succ_eq_append_getElem hlt, wishAt_get hlt])
              have HMEM : Hid (wishAt l k ∈ l) := Lib.hid (by rw [wishAt_get hlt]; exact List.getElem_mem hlt)
              have hkn : knownB n (wishAt l k) = true := (List.all_eq_true.1 HKA.out) _ HMEM.out
              have hak := HAG.out k hlt
              obtain ⟨X, hX⟩ : ∃ X, wishAt l k = X := ⟨_, rfl⟩
              rw [hX] at hst HTK HMEM ha1 ha3 hok hkn hak g0 g1 g2 g3 g4 g5 g6 g7 g8 g9 g10
              clear hX
              obtain ⟨o, ho⟩ : ∃ o, orderOf n X = o := ⟨_, rfl⟩
              have HOD := Lib.hid ho
              have HRS : Hid (∀ W, Below wr.heap.size wr W → Calls Try.prog 29 #[.agg #[.slice ao n.offices.length co, .slice ap n.people.length cp, .slice ac n.classes.length cc, .slice ah n.homes.length ch], .agg #[strV X.name, strV X.frm, strV X.to, strV X.cls, .int .i64 X.after, .int .i64 X.by_, .int .i64 X.crowd, .int .i64 X.pay, .slice aa X.against.length ca, .bool X.back, .int .i64 X.els]] W fun e w' => ∃ vb, e = .returned (orderV vb o) ∧ Below W.heap.size W w' ∧ OwnInts W.heap.size w' vb o.against) := Lib.hid fun W hW => by
                have h := resolved_any B W ⟨_, _, _, _⟩ n _ X (by have := HBQ.out.size; have := hW.size; omega) (HV.out.below (HBQ.out.trans (hW.mono HBQ.out.size)) hB) (hst.below strK hW (by have := HBQ.out.size; omega)) hok HE.out hkn hak
                refine Calls.mono h ?_
                rintro e w' ⟨vb, h1, h2, h3, h4⟩
                rw [ho] at h1 h3
                exact ⟨vb, h1, h2, h3⟩
              have HOO : Hid (okO o) := Lib.hid (by rw [← ho]; exact okO_of HE.out hkn hok)
              have HNP : Hid (∀ W, Below wr.heap.size wr W → W.cell? ⟨b0, 0, none⟩ = some (.slice ao n.offices.length co) ∧ W.cell? ⟨b0, 1, none⟩ = some (.slice ap n.people.length cp) ∧ W.cell? ⟨b0, 2, none⟩ = some (.slice ac n.classes.length cc) ∧ W.cell? ⟨b0, 3, none⟩ = some (.slice ah n.homes.length ch)) := Lib.hid fun W hW => by
                have hy := (HXR2.out.ext hW).2
                exact ⟨hy 0, hy 1, hy 2, hy 3⟩
              have hbb : b < wr.heap.size := by have := HBQ.out.size; omega
              have HWP : Hid (∀ W, Below wr.heap.size wr W → W.cell? ⟨b, off + k * 11, none⟩ = some (strV X.name) ∧ W.cell? ⟨b, off + k * 11 + 1, none⟩ = some (strV X.frm) ∧ W.cell? ⟨b, off + k * 11 + 2, none⟩ = some (strV X.to) ∧ W.cell? ⟨b, off + k * 11 + 3, none⟩ = some (strV X.cls) ∧ W.cell? ⟨b, off + k * 11 + 4, none⟩ = some (.int .i64 X.after) ∧ W.cell? ⟨b, off + k * 11 + 5, none⟩ = some (.int .i64 X.by_) ∧ W.cell? ⟨b, off + k * 11 + 6, none⟩ = some (.int .i64 X.crowd) ∧ W.cell? ⟨b, off + k * 11 + 7, none⟩ = some (.int .i64 X.pay) ∧ W.cell? ⟨b, off + k * 11 + 8, none⟩ = some (.slice aa X.against.length ca) ∧ W.cell? ⟨b, off + k * 11 + 9, none⟩ = some (.bool X.back) ∧ W.cell? ⟨b, off + k * 11 + 10, none⟩ = some (.int .i64 X.els)) := Lib.hid fun W hW => ⟨(hW.cell (p := ⟨b, off + k * 11, none⟩) hbb).trans g0, (hW.cell (p := ⟨b, off + k * 11 + 1, none⟩) hbb).trans g1, (hW.cell (p := ⟨b, off + k * 11 + 2, none⟩) hbb).trans g2, (hW.cell (p := ⟨b, off + k * 11 + 3, none⟩) hbb).trans g3, (hW.cell (p := ⟨b, off + k * 11 + 4, none⟩) hbb).trans g4, (hW.cell (p := ⟨b, off + k * 11 + 5, none⟩) hbb).trans g5, (hW.cell (p := ⟨b, off + k * 11 + 6, none⟩) hbb).trans g6, (hW.cell (p := ⟨b, off + k * 11 + 7, none⟩) hbb).trans g7, (hW.cell (p := ⟨b, off + k * 11 + 8, none⟩) hbb).trans g8, (hW.cell (p := ⟨b, off + k * 11 + 9, none⟩) hbb).trans g9, (hW.cell (p := ⟨b, off + k * 11 + 10, none⟩) hbb).trans g10⟩
              clear hst hok hkn hak ho g0 g1 g2 g3 g4 g5 g6 g7 g8 g9 g10
              go_wp2
              obtain ⟨V, hV⟩ : ∃ V : List (Option Value), V = [some (.agg #[.slice ao n.offices.length co, .slice ap n.people.length cp, .slice ac n.classes.length cc, .slice ah n.homes.length ch]), some (.slice (some ⟨b, off, none⟩) l.length cw), some (.int .i64 k), some (.pointer (some ⟨b, off + k * 11, none⟩)), some (.agg #[strV X.name, strV X.frm, strV X.to, strV X.cls, .int .i64 X.after, .int .i64 X.by_, .int .i64 X.crowd, .int .i64 X.pay, .slice aa X.against.length ca, .bool X.back, .int .i64 X.els]), none, none, none] := ⟨_, rfl⟩
              have HVV := Lib.hid hV
              clear hV
              refine wp_region_V [some 62, some 63, some 64, some 65, some 66, some 67, some 12, none] (fun L w' xs => ValsAt V L xs ∧ ((L 7 = false ∧ Below wr.heap.size wr w' ∧ (L 5 = true → ∃ vb, xs 5 = orderV vb o ∧ OwnInts wr.heap.size w' vb o.against ∧ ∀ g, L 6 = true → xs 6 = .pointer (some ⟨g, 0, none⟩) → vb.ownBlock ≠ some g) ∧ (L 6 = true → ∃ g, xs 6 = .pointer (some ⟨g, 0, none⟩) ∧ wr.heap.size ≤ g ∧ CellsN w' g #[.int .i64 0, .int .i64 0, .int .i64 0, .int .i64 0, .int .i64 0, .int .i64 0, .int .i64 0, .int .i64 0, .slice none 0 0, .bool false, .int .i64 0])) ∨ (L 7 = true ∧ (∀ j, j < 7 → L j = true) ∧ ∃ g vb, xs 6 = .pointer (some ⟨g, 0, none⟩) ∧ wr.heap.size ≤ g ∧ CellsN w' g (orderC vb o).toArray ∧ Below wr.heap.size wr w' ∧ OwnInts wr.heap.size w' vb o.against))) (by kernel_rfl) (by kernel_rfl) (by rfl) (by rfl) (by rfl) ?_ ?_ ?_
              focus
                exact fun xs => ⟨ValsAt.none _ _, Or.inl ⟨rfl, (Below.refl _ _).drew, (fun h => by cases h), (fun h => by cases h)⟩⟩
              focus
                refine ⟨?_, ?_, ?_, ?_, ?_, ?_, ?_, ?_, trivial⟩
                all_goals
                  intro L a' w' xs hi hd hf hJ K hK
                  obtain ⟨hv, hw⟩ := hJ
                  have HF := Lib.hid hf
                  have HVA := Lib.hid hv
                  have HLI := Lib.hid hi
                  clear hf hv hi
                focus
                  clear hd
                  obtain ⟨ρ, hρ⟩ : ∃ ρ, a'.eval = ρ := ⟨_, rfl⟩
                  have hcst : ∀ v, ρ (.const v) = v := fun v => (congrFun hρ (.const v)).symm
                  have l2 : ρ (.tmp 2) = .pointer (some ⟨b0, 0, none⟩) := (congrFun hρ (.tmp 2)).symm.trans (HF.out.lo 2 rfl)
                  rw [if_pos (by simp [Region.wanted])]
                  unfold Oper.wp
                  rw [hρ]
                  clear hρ
                  rcases hw with ⟨h7, hb, h5, h6⟩ | ⟨_, h, _⟩
                  rotate_left
                  · have := h 0 (by decide); rw [HLI.out] at this; cases this
                  have H5 := Lib.hid h5
                  have H6 := Lib.hid h6
                  clear h5 h6
                  obtain ⟨m0, m1, m2, m3⟩ := HNP.out _ hb
                  go_simp
                  exact hK.out _ _ ⟨HVA.out.set (i := 0) (by rw [HVV.out]; rfl), Or.inl ⟨by rw [upd_ne (by decide)]; exact h7, hb, by rw [upd_ne (by decide), upd_ne (by decide), updV_ne (by decide), updV_ne (by decide)]; exact H5.out, by rw [upd_ne (by decide), updV_ne (by decide)]; exact H6.out⟩⟩
                focus
                  clear hd
                  obtain ⟨ρ, hρ⟩ : ∃ ρ, a'.eval = ρ := ⟨_, rfl⟩
                  have hcst : ∀ v, ρ (.const v) = v := fun v => (congrFun hρ (.const v)).symm
                  have l1 : ρ (.tmp 1) = .slice (some ⟨b, off, none⟩) l.length cw := (congrFun hρ (.tmp 1)).symm.trans (HF.out.lo 1 rfl)
                  rw [if_pos (by simp [Region.wanted])]
                  unfold Oper.wp
                  rw [hρ]
                  clear hρ
                  rcases hw with ⟨h7, hb, h5, h6⟩ | ⟨_, h, _⟩
                  rotate_left
                  · have := h 1 (by decide); rw [HLI.out] at this; cases this
                  have H5 := Lib.hid h5
                  have H6 := Lib.hid h6
                  clear h5 h6
                  go_simp
                  exact hK.out _ _ ⟨HVA.out.set (i := 1) (by rw [HVV.out]; rfl), Or.inl ⟨by rw [upd_ne (by decide)]; exact h7, hb, by rw [upd_ne (by decide), upd_ne (by decide), updV_ne (by decide), updV_ne (by decide)]; exact H5.out, by rw [upd_ne (by decide), updV_ne (by decide)]; exact H6.out⟩⟩
                focus
                  clear hd
                  obtain ⟨ρ, hρ⟩ : ∃ ρ, a'.eval = ρ := ⟨_, rfl⟩
                  have hcst : ∀ v, ρ (.const v) = v := fun v => (congrFun hρ (.const v)).symm
                  have l11 : ρ (.tmp 11) = .int .i64 k := (congrFun hρ (.tmp 11)).symm.trans (HF.out.lo 11 rfl)
                  rw [if_pos (by simp [Region.wanted])]
                  unfold Oper.wp
                  rw [hρ]
                  clear hρ
                  rcases hw with ⟨h7, hb, h5, h6⟩ | ⟨_, h, _⟩
                  rotate_left
                  · have := h 2 (by decide); rw [HLI.out] at this; cases this
                  have H5 := Lib.hid h5
                  have H6 := Lib.hid h6
                  clear h5 h6
                  go_simp
                  exact hK.out _ _ ⟨HVA.out.set (i := 2) (by rw [HVV.out]; rfl), Or.inl ⟨by rw [upd_ne (by decide)]; exact h7, hb, by rw [upd_ne (by decide), upd_ne (by decide), updV_ne (by decide), updV_ne (by decide)]; exact H5.out, by rw [upd_ne (by decide), updV_ne (by decide)]; exact H6.out⟩⟩
                focus
                  obtain ⟨d1, d2, _⟩ := hd
                  obtain ⟨ρ, hρ⟩ : ∃ ρ, a'.eval = ρ := ⟨_, rfl⟩
                  have hcst : ∀ v, ρ (.const v) = v := fun v => (congrFun hρ (.const v)).symm
                  have v1 : ρ (.tmp 63) = .slice (some ⟨b, off, none⟩) l.length cw := (congrFun hρ (.tmp 63)).symm.trans ((HF.out.ev 1 rfl d1).trans (HVA.out 1 _ (by rw [HVV.out]; rfl) d1))
                  have v2 : ρ (.tmp 64) = .int .i64 k := (congrFun hρ (.tmp 64)).symm.trans ((HF.out.ev 2 rfl d2).trans (HVA.out 2 _ (by rw [HVV.out]; rfl) d2))
                  rw [if_pos (by simp [Region.wanted])]
                  unfold Oper.wp
                  rw [hρ]
                  clear hρ
                  rcases hw with ⟨h7, hb, h5, h6⟩ | ⟨_, h, _⟩
                  rotate_left
                  · have := h 3 (by decide); rw [HLI.out] at this; cases this
                  have H5 := Lib.hid h5
                  have H6 := Lib.hid h6
                  clear h5 h6
                  go_simp
                  exact hK.out _ _ ⟨HVA.out.set (i := 3) (by rw [HVV.out]; rfl), Or.inl ⟨by rw [upd_ne (by decide)]; exact h7, hb, by rw [upd_ne (by decide), upd_ne (by decide), updV_ne (by decide), updV_ne (by decide)]; exact H5.out, by rw [upd_ne (by decide), updV_ne (by decide)]; exact H6.out⟩⟩
                focus
                  obtain ⟨d3, _⟩ := hd
                  obtain ⟨ρ, hρ⟩ : ∃ ρ, a'.eval = ρ := ⟨_, rfl⟩
                  have hcst : ∀ v, ρ (.const v) = v := fun v => (congrFun hρ (.const v)).symm
                  have v3 : ρ (.tmp 65) = .pointer (some ⟨b, off + k * 11, none⟩) := (congrFun hρ (.tmp 65)).symm.trans ((HF.out.ev 3 rfl d3).trans (HVA.out 3 _ (by rw [HVV.out]; rfl) d3))
                  rw [if_pos (by simp [Region.wanted])]
                  unfold Oper.wp
                  rw [hρ]
                  clear hρ
                  rcases hw with ⟨h7, hb, h5, h6⟩ | ⟨_, h, _⟩
                  rotate_left
                  · have := h 4 (by decide); rw [HLI.out] at this; cases this
                  have H5 := Lib.hid h5
                  have H6 := Lib.hid h6
                  clear h5 h6
                  obtain ⟨g0, g1, g2, g3, g4, g5, g6, g7, g8, g9, g10⟩ := HWP.out _ hb
                  go_simp
                  exact hK.out _ _ ⟨HVA.out.set (i := 4) (by rw [HVV.out]; rfl), Or.inl ⟨by rw [upd_ne (by decide)]; exact h7, hb, by rw [upd_ne (by decide), upd_ne (by decide), updV_ne (by decide), updV_ne (by decide)]; exact H5.out, by rw [upd_ne (by decide), updV_ne (by decide)]; exact H6.out⟩⟩
                focus
                  obtain ⟨d0, d4, _⟩ := hd
                  obtain ⟨ρ, hρ⟩ : ∃ ρ, a'.eval = ρ := ⟨_, rfl⟩
                  have hcst : ∀ v, ρ (.const v) = v := fun v => (congrFun hρ (.const v)).symm
                  have hfun : ∀ k, ρ (.func k) = .func (.func k) #[] #[] := fun k => (congrFun hρ (.func k)).symm
                  have v0 : ρ (.tmp 62) = .agg #[.slice ao n.offices.length co, .slice ap n.people.length cp, .slice ac n.classes.length cc, .slice ah n.homes.length ch] := (congrFun hρ (.tmp 62)).symm.trans ((HF.out.ev 0 rfl d0).trans (HVA.out 0 _ (by rw [HVV.out]; rfl) d0))
                  have v4 : ρ (.tmp 66) = .agg #[strV X.name, strV X.frm, strV X.to, strV X.cls, .int .i64 X.after, .int .i64 X.by_, .int .i64 X.crowd, .int .i64 X.pay, .slice aa X.against.length ca, .bool X.back, .int .i64 X.els] := (congrFun hρ (.tmp 66)).symm.trans ((HF.out.ev 4 rfl d4).trans (HVA.out 4 _ (by rw [HVV.out]; rfl) d4))
                  rw [if_pos (by simp [Region.wanted])]
                  unfold Oper.wp
                  rw [hρ]
                  clear hρ
                  rcases hw with ⟨h7, hb, h5, h6⟩ | ⟨_, h, _⟩
                  rotate_left
                  · have := h 5 (by decide); rw [HLI.out] at this; cases this
                  have H5 := Lib.hid h5
                  have H6 := Lib.hid h6
                  clear h5 h6
                  go_simp
                  go_at_call 29
                  refine (HRS.out _ hb).mono ?_
                  rintro e w5 ⟨vb, rfl, hb5, ho5⟩
                  refine hK.out _ _ ⟨HVA.out.free (i := 5) (by rw [HVV.out]; rfl) _, Or.inl ⟨by rw [upd_ne (by decide)]; exact h7, hb.trans (hb5.mono hb.size), fun _ => ⟨vb, updV_self _ _ _, ho5.mono hb.size, fun g hg6 he => ?_⟩, fun hg6 => ?_⟩⟩
                  · rw [upd_ne (by decide)] at hg6
                    rw [updV_ne (by decide)] at he
                    obtain ⟨g', e', _, hc'⟩ := H6.out hg6
                    rw [e'] at he
                    cases he
                    intro e
                    have := (ho5.1.lt _ e).1
                    have := hc'.lt
                    omega
                  · rw [upd_ne (by decide)] at hg6
                    rw [updV_ne (by decide)]
                    obtain ⟨g', e', hg', hc'⟩ := H6.out hg6
                    exact ⟨g', e', hg', hc'.ext hb5⟩
                focus
                  clear hd
                  obtain ⟨ρ, hρ⟩ : ∃ ρ, a'.eval = ρ := ⟨_, rfl⟩
                  have hcst : ∀ v, ρ (.const v) = v := fun v => (congrFun hρ (.const v)).symm
                  rw [if_pos (by simp [Region.wanted])]
                  unfold Oper.wp
                  rw [hρ]
                  clear hρ
                  rcases hw with ⟨h7, hb, h5, h6⟩ | ⟨_, h, _⟩
                  rotate_left
                  · have := h 6 (by decide); rw [HLI.out] at this; cases this
                  have H5 := Lib.hid h5
                  have H6 := Lib.hid h6
                  clear h5 h6
                  have hbn := box_below' w' (.cells #[.int .i64 0, .int .i64 0, .int .i64 0, .int .i64 0, .int .i64 0, .int .i64 0, .int .i64 0, .int .i64 0, .slice none 0 0, .bool false, .int .i64 0] 38)
                  have hcn := CellsN.new w' #[.int .i64 0, .int .i64 0, .int .i64 0, .int .i64 0, .int .i64 0, .int .i64 0, .int .i64 0, .int .i64 0, .slice none 0 0, .bool false, .int .i64 0] 38
                  have HBN := Lib.hid hbn
                  have HCN := Lib.hid hcn
                  clear hbn hcn
                  go_simp
                  refine hK.out _ _ ⟨HVA.out.free (i := 6) (by rw [HVV.out]; rfl) _, Or.inl ⟨by rw [upd_ne (by decide)]; exact h7, hb.trans (HBN.out.mono hb.size), fun hg5 => ?_, fun _ => ⟨w'.heap.size, updV_self _ _ _, hb.size, HCN.out⟩⟩⟩
                  rw [upd_ne (by decide)] at hg5
                  rw [updV_ne (by decide)]
                  obtain ⟨vb, e5, ho5, _⟩ := H5.out hg5
                  refine ⟨vb, e5, ho5.below HBN.out, fun g _ he => ?_⟩
                  rw [updV_self] at he
                  cases he
                  intro e
                  have := (ho5.1.lt _ e).2
                  omega
                focus
                  obtain ⟨d6, d5, _, d0, d1, d2, d3, d4, _, _, _⟩ := hd
                  obtain ⟨ρ, hρ⟩ : ∃ ρ, a'.eval = ρ := ⟨_, rfl⟩
                  have hcst : ∀ v, ρ (.const v) = v := fun v => (congrFun hρ (.const v)).symm
                  have v6 : ρ (.tmp 12) = xs 6 := (congrFun hρ (.tmp 12)).symm.trans (HF.out.ev 6 rfl d6)
                  have v5 : ρ (.tmp 67) = xs 5 := (congrFun hρ (.tmp 67)).symm.trans (HF.out.ev 5 rfl d5)
                  rw [if_pos (by simp [Region.wanted])]
                  unfold Oper.wp
                  rw [hρ]
                  clear hρ
                  rcases hw with ⟨h7, hb, h5, h6⟩ | ⟨h7, _⟩
                  rotate_left
                  · rw [HLI.out] at h7; cases h7
                  obtain ⟨vb, e5, ho5, hne⟩ := h5 d5
                  obtain ⟨g, e6, hg, hcg⟩ := h6 d6
                  have hne := hne g d6 e6
                  obtain ⟨av8, nv8, cv8, rfl⟩ := ho5.form'
                  rw [e6] at v6
                  rw [e5] at v5
                  rw [show orderV (.slice av8 nv8 cv8) o = .agg #[.int .i64 o.frm, .int .i64 o.person, .int .i64 o.dest, .int .i64 o.cls, .int .i64 o.after, .int .i64 o.by_, .int .i64 o.crowd, .int .i64 o.pay, .slice av8 nv8 cv8, .bool o.back, .int .i64 o.els] from rfl] at v5
                  have c0 := hcg.cell 0
                  have f0 := hcg.free 0
                  have c1 := hcg.cell 1
                  have f1 := hcg.free 1
                  have c2 := hcg.cell 2
                  have f2 := hcg.free 2
                  have c3 := hcg.cell 3
                  have f3 := hcg.free 3
                  have c4 := hcg.cell 4
                  have f4 := hcg.free 4
                  have c5 := hcg.cell 5
                  have f5 := hcg.free 5
                  have c6 := hcg.cell 6
                  have f6 := hcg.free 6
                  have c7 := hcg.cell 7
                  have f7 := hcg.free 7
                  have c8 := hcg.cell 8
                  have f8 := hcg.free 8
                  have c9 := hcg.cell 9
                  have f9 := hcg.free 9
                  have c10 := hcg.cell 10
                  have f10 := hcg.free 10
                  simp at c0 c1 c2 c3 c4 c5 c6 c7 c8 c9 c10
                  have hcs := (((((((((((hcg.set 0 (.int .i64 o.frm)).set 1 (.int .i64 o.person)).set 2 (.int .i64 o.dest)).set 3 (.int .i64 o.cls)).set 4 (.int .i64 o.after)).set 5 (.int .i64 o.by_)).set 6 (.int .i64 o.crowd)).set 7 (.int .i64 o.pay)).set 8 (.slice av8 nv8 cv8)).set 9 (.bool o.back)).set 10 (.int .i64 o.els))
                  simp only [List.setIfInBounds_toArray, List.set_cons_zero, List.set_cons_succ] at hcs
                  have HCS := Lib.hid hcs
                  have HO5 := Lib.hid ho5
                  have HNE := Lib.hid hne
                  have E6 := Lib.hid e6
                  clear hcs ho5 hne e5 e6 hcg
                  go_simp
                  refine hK.out _ _ ⟨HVA.out.free (i := 7) (by rw [HVV.out]; rfl) undef, Or.inr ⟨upd_self _ _, fun j hj => ?_, g, _, by rw [updV_ne (by decide)]; exact E6.out, hg, HCS.out, ?_, ?_⟩⟩
                  · rw [upd_ne (by omega)]
                    match j, hj with
                    | 0, _ => exact d0
                    | 1, _ => exact d1
                    | 2, _ => exact d2
                    | 3, _ => exact d3
                    | 4, _ => exact d4
                    | 5, _ => exact d5
                    | 6, _ => exact d6
                  · repeat (with_reducible refine Below.setCell ?_ ?_ _)
                    all_goals first | exact hb | exact hg
                  · refine HO5.out.kept (row := some g) ?_ (.inr HNE.out)
                    exact (grown_trans (grown_trans (grown_trans (grown_trans (grown_trans (grown_trans (grown_trans (grown_trans (grown_trans (grown_trans (grown_trans (grown_refl _ _) (grown_setCell _ ⟨g, 0, none⟩ _)) (grown_setCell _ ⟨g, 1, none⟩ _)) (grown_setCell _ ⟨g, 2, none⟩ _)) (grown_setCell _ ⟨g, 3, none⟩ _)) (grown_setCell _ ⟨g, 4, none⟩ _)) (grown_setCell _ ⟨g, 5, none⟩ _)) (grown_setCell _ ⟨g, 6, none⟩ _)) (grown_setCell _ ⟨g, 7, none⟩ _)) (grown_setCell _ ⟨g, 8, none⟩ _)) (grown_setCell _ ⟨g, 9, none⟩ _)) (grown_setCell _ ⟨g, 10, none⟩ _))
              focus
                intro L w' xs hL hJ
                obtain ⟨hv, hw⟩ := hJ
                have e0 : xs 0 = .agg #[.slice ao n.offices.length co, .slice ap n.people.length cp, .slice ac n.classes.length cc, .slice ah n.homes.length ch] := hv 0 _ (by rw [HVV.out]; rfl) (hL 0 (by decide))
                have e1 : xs 1 = .slice (some ⟨b, off, none⟩) l.length cw := hv 1 _ (by rw [HVV.out]; rfl) (hL 1 (by decide))
                have e2 : xs 2 = .int .i64 k := hv 2 _ (by rw [HVV.out]; rfl) (hL 2 (by decide))
                have e3 : xs 3 = .pointer (some ⟨b, off + k * 11, none⟩) := hv 3 _ (by rw [HVV.out]; rfl) (hL 3 (by decide))
                have e4 : xs 4 = .agg #[strV X.name, strV X.frm, strV X.to, strV X.cls, .int .i64 X.after, .int .i64 X.by_, .int .i64 X.crowd, .int .i64 X.pay, .slice aa X.against.length ca, .bool X.back, .int .i64 X.els] := hv 4 _ (by rw [HVV.out]; rfl) (hL 4 (by decide))
                simp only [putGo, Act.put, List.setIfInBounds_toArray, List.set_cons_zero, List.set_cons_succ, e0, e1, e2, e3, e4]
                clear hv e0 e1 e2 e3 e4
                rcases hw with ⟨h7, _⟩ | ⟨_, _, g, vb, e6, hg, hcg, hb9, ho9⟩
                · rw [hL 7 (by decide)] at h7; cases h7
                obtain ⟨av8, nv8, cv8, rfl⟩ := ho9.form'
                rw [e6]
                have HB9 := Lib.hid hb9
                have HO9 := Lib.hid ho9
                have HCG := Lib.hid hcg
                have HX9 := Lib.hid (HXR2.out.ext hb9)
                have HOL := Lib.hid (HO.out.below orderSK hb9)
                have hsz9 := hb9.size
                have HLT := Lib.hid hcg.lt
                clear hb9 ho9 e6 hL HNP HWP HRS
                obtain ⟨w9, rfl⟩ : ∃ W, W = w' := ⟨_, rfl⟩
                obtain ⟨_, xr⟩ := HX9.out
                have x0 := xr 0
                have x1 := xr 1
                have x2 := xr 2
                have k0 := HCG.out.cell 0
                have k1 := HCG.out.cell 1
                have k2 := HCG.out.cell 2
                have k3 := HCG.out.cell 3
                have k4 := HCG.out.cell 4
                have k5 := HCG.out.cell 5
                have k6 := HCG.out.cell 6
                have k7 := HCG.out.cell 7
                have k8 := HCG.out.cell 8
                have k9 := HCG.out.cell 9
                have k10 := HCG.out.cell 10
                simp at x0 x1 x2
                simp [orderC] at k0 k1 k2 k3 k4 k5 k6 k7 k8 k9 k10
                clear xr hcg
                go_wp2_with fail
                refine (rright_any w9.heap.size w9 _ o _ _ _ (Nat.le_refl _) HO9.out.isInts HOO.out).mono ?_
                rintro e w10 ⟨rfl, hb10⟩
                rw [show rightB o n.offices.length n.people.length n.classes.length = rightN n o from rfl]
                have HB10 := Lib.hid hb10
                have HO10 := Lib.hid (HO9.out.below hb10)
                have HOL10 := Lib.hid (HOL.out.below orderSK hb10)
                have HCG10 := Lib.hid (HCG.out.ext hb10)
                have hsz10 := hb10.size
                obtain ⟨RN, hRN⟩ : ∃ N, rightN n o = N := ⟨_, rfl⟩
                have HRN := Lib.hid hRN
                rw [hRN]
                clear hRN hb10 x0 x1 x2 k0 k1 k2 k3 k4 k5 k6 k7 k8 k9 k10
                cases RN with
                | false =>
                  have HR := Lib.hid (resE_right HE.out HLEN.out HND.out HKA.out (by
                    rw [List.all_eq_false]
                    exact ⟨o, by rw [← HOD.out]; exact List.mem_map_of_mem HMEM.out, by rw [HRN.out]; simp⟩))
                  go_wp2
                  go_ret2
                  exact ResPost.no HR.out (by omega) ((HBQ.out.trans (HB9.out.mono HBQ.out.size)).trans (HB10.out.mono (by have := HBQ.out.size; omega)))
                | true =>
                  have k0 := HCG10.out.cell 0
                  have k1 := HCG10.out.cell 1
                  have k2 := HCG10.out.cell 2
                  have k3 := HCG10.out.cell 3
                  have k4 := HCG10.out.cell 4
                  have k5 := HCG10.out.cell 5
                  have k6 := HCG10.out.cell 6
                  have k7 := HCG10.out.cell 7
                  have k8 := HCG10.out.cell 8
                  have k9 := HCG10.out.cell 9
                  have k10 := HCG10.out.cell 10
                  simp [orderC] at k0 k1 k2 k3 k4 k5 k6 k7 k8 k9 k10
                  go_wp2_with (at_builtin; refine append_deepA orderSK (by decide) order_inf Try.underlying30 rfl (by decide) (by decide) rfl (.tmp 80) (.tmp 82) rfl (C := wB.heap.size) (v := .slice ax nx cx) (vx := .slice (some ⟨w10.heap.size, 0, none⟩) 1 1) (xs := (l.take k).map (orderOf n)) (ys := [o]) rfl (HOL10.out.below orderSK (box_below' w10 _)) rfl (src_order (D := wr.heap.size) HO10.out HOO.out hsz2 (fun q e => by have := HO.out.lt q e; omega)) (by simp; omega) (by simp; omega) ?_; intro v6 wa ho6 hg6 hat6; obtain ⟨a6, n6, c6, rfl⟩ := ho6.form'; have HO6 := Lib.hid ho6; have HG6 := Lib.hid hg6; clear ho6 hg6 hat6 k0 k1 k2 k3 k4 k5 k6 k7 k8 k9 k10)
                  go_roundw
                  case rel =>
                    refine ⟨k + 1, by omega, by go_num, by rw [HTK.out, List.map_append, List.map_singleton, HOD.out]; exact HO6.out, ?_, by rw [HTK.out, List.map_append, List.all_append, HAL.out, List.map_singleton, HOD.out]; simp [HRN.out]⟩
                    exact (((HBR2.out.trans (HB9.out.mono hsz2)).trans (HB10.out.mono (by omega))).alloc (by omega) _).grown HG6.out (by simp; omega) (fun q e => (HO.out.lt q e).1)
                  case measure => simp [intOf]; omega
            · obtain rfl : k = l.length := by omega
              have ho := HO.out
              have hal := HAL.out
              rw [List.take_length] at ho hal
              have HR := Lib.hid (resE_ok HE.out HLEN.out HND.out HKA.out hal)
              have HO2 := Lib.hid ho
              clear ho hal
              go_wp2
              go_ret2
              exact ⟨.slice ax nx cx, by rw [HR.out]; rfl, by unfold resL; rw [if_pos HR.out]; exact HO2.out.mono HBW.out.size, HBQ.out⟩
end Go.Proofs.Ytmfbabmejbppjaa
