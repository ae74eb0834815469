/-
  Layer 18: the walks of orders.Check, frankingref18.Index, names, Check.
-/
import Derived.Test.YtmfbabmejbppjaaOr4
import Derived.Test.YtmfbabmejbppjaaOn2
set_option linter.unusedVariables false
set_option linter.unusedSimpArgs false
namespace Go.Proofs.Ytmfbabmejbppjaa
open Go.RowKit

set_option maxHeartbeats 1000000 in
set_option maxRecDepth 100000 in
theorem check_any (B : Nat) (w : World) (v : NamesV) (n : NamesD) (hB : B ≤ w.heap.size) (hv : IsNames B w v n) (hs : SmallN n) :
    Calls Try.prog 14 #[v.agg] w fun e w' => e = .returned (.int .i64 (checkN n)) ∧ Below w.heap.size w w' := by
  obtain ⟨vo, vp, vc, vh⟩ := v
  have HV := Lib.hid hv
  have HBX := Lib.hid (box_below' w (.cells #[vo, vp, vc, vh] 25))
  obtain ⟨ao, co, e, ho1, ho2, ho3⟩ := hv.o.form
  simp only at e; subst e
  obtain ⟨ap, cp, e, hp1, hp2, hp3⟩ := hv.p.form
  simp only at e; subst e
  obtain ⟨ac, cc, e, hc1, hc2, hc3⟩ := hv.c.form
  simp only at e; subst e
  obtain ⟨bh, oh, ch, ⟨ah, e, hh1, hh2, hh4⟩, hh3, hh5, hh6⟩ := hv.h
  simp only at e; subst e
  have HR := Lib.hid (read_any B _ _ n (by simp; omega) (HV.out.below HBX.out hB) hs)
  clear hv hh5 hh6
  unfold NamesV.agg at *
  go_enter Try.func14, Try.ntmps14
  go_wp2_with fail
  refine (HR.out).mono ?_
  rintro e w1 ⟨m0, m1, m2, rfl, hb, _⟩
  have HB1 : Hid (Below w.heap.size w w1) := Lib.hid (HBX.out.trans (hb.mono (by simp)))
  clear hb
  go_wp2
  go_ret
  exact ⟨rfl, HB1.out⟩

set_option maxHeartbeats 1000000 in
set_option maxRecDepth 100000 in
theorem rindex_any (B : Nat) (w : World) (v : Value) (xs : List Str) (s : Str) (hv : IsStrs B w v xs) :
    Calls Try.prog 41 #[v, strV s] w fun e w' => e = .returned (.int .i64 (idxI xs s)) ∧ w' = w := by
  obtain ⟨a, c, rfl, hc1, hc2, hc3⟩ := hv.form
  have HV := Lib.hid hv
  clear hv
  go_enter Try.func41, Try.ntmps41
  go_wp2
  go_loop [5] (fun i => ∃ k : Nat, k ≤ xs.length ∧ i = .int .i64 k ∧ ∀ j, j < k → xs[j]? ≠ some s) (fun i => xs.length - (intOf i).toNat)
  case atStart => exact ⟨0, by omega, rfl, fun j hj => by omega⟩
  case round =>
    obtain ⟨k, hk, rfl, hall⟩ := hrel
    have HA := Lib.hid hall
    clear hall
    by_cases hlt : k < xs.length
    · obtain ⟨b, off, rfl, bb, g0, gl⟩ := IsStrs.cell HV.out hlt
      have HG : Hid (xs[k]? = some (strAt xs k)) := Lib.hid (by rw [strAt_get hlt, List.getElem?_eq_getElem hlt])
      by_cases he : strAt xs k = s
      · have HI : Hid (idxI xs s = k) := Lib.hid (idxI_eq (by rw [HG.out, he]) HA.out)
        have hb : (strAt xs k == s) = true := by simpa using he
        clear he
        go_wp2
        go_ret
        exact ⟨ret_int' HI.out, rfl⟩
      · have HE := Lib.hid he
        have hb : (strAt xs k == s) = false := by simpa using he
        clear he
        go_wp2
        go_round
        case rel =>
          refine ⟨k + 1, by omega, by go_num, fun j hj hh => ?_⟩
          by_cases hjk : j < k
          · exact HA.out j hjk hh
          · obtain rfl : j = k := by omega
            rw [HG.out] at hh
            exact HE.out (Option.some.inj hh)
        case measure => simp [intOf]; omega
    · have HI : Hid (idxI xs s = -1) := Lib.hid (by
        have h1 : idxI xs s < 0 := idxI_none.2 (fun hm => by
          obtain ⟨j, hj⟩ := List.getElem?_of_mem hm
          exact HA.out j (by have := (List.getElem?_eq_some_iff.1 hj).1; omega) hj)
        have := idxI_ge xs s
        omega)
      go_wp2
      go_ret
      exact ⟨ret_int' HI.out, rfl⟩

/-- the first names are names, and different -/
def namesTo (l : List Str) (k : Nat) : Prop := ∀ j, j < k → nameB (strAt l j) = true ∧ idxI l (strAt l j) = j
theorem namesOk_of {l : List Str} (h : namesTo l l.length) : namesOk l = true := by
  unfold namesOk
  rw [Bool.and_eq_true, List.all_eq_true, decide_eq_true_iff]
  constructor
  · intro x hx
    obtain ⟨j, hj, rfl⟩ := List.getElem_of_mem hx
    have := (h j hj).1
    rwa [strAt_get hj] at this
  · refine List.pairwise_iff_getElem.2 fun i j hi hj hij he => ?_
    have h1 := (h i hi).2
    have h2 := (h j hj).2
    rw [strAt_get hi] at h1
    rw [strAt_get hj, ← he, h1] at h2
    omega
theorem namesOk_not {l : List Str} {k : Nat} (hk : k < l.length) (h : ¬ (nameB (strAt l k) = true ∧ idxI l (strAt l k) = k)) : namesOk l = false := by
  rw [Bool.eq_false_iff]
  intro hn
  unfold namesOk at hn
  rw [Bool.and_eq_true, List.all_eq_true, decide_eq_true_iff] at hn
  apply h
  rw [strAt_get hk]
  refine ⟨hn.1 _ (List.getElem_mem hk), idxI_eq (List.getElem?_eq_getElem hk) (fun j hj hh => ?_)⟩
  have hjl : j < l.length := by omega
  rw [List.getElem?_eq_getElem hjl] at hh
  have := (List.getElem_inj hn.2).1 (Option.some.inj hh)
  omega

set_option maxHeartbeats 2000000 in
set_option maxRecDepth 100000 in
theorem rnames_any (B : Nat) (w : World) (v : Value) (xs : List Str) (hv : IsStrs B w v xs) :
    Calls Try.prog 30 #[v] w fun e w' => e = .returned (.bool (namesOk xs)) ∧ w' = w := by
  obtain ⟨a, c, rfl, hc1, hc2, hc3⟩ := hv.form
  have HV := Lib.hid hv
  clear hv
  go_enter Try.func30, Try.ntmps30
  go_wp2
  go_loop [3] (fun i => ∃ k : Nat, k ≤ xs.length ∧ i = .int .i64 k ∧ namesTo xs k) (fun i => xs.length - (intOf i).toNat)
  case atStart => exact ⟨0, by omega, rfl, fun j hj => by omega⟩
  case round =>
    obtain ⟨k, hk, rfl, hall⟩ := hrel
    have HA := Lib.hid hall
    clear hall
    by_cases hlt : k < xs.length
    · obtain ⟨b, off, rfl, bb, g0, gl⟩ := IsStrs.cell HV.out hlt
      have hz := len_mk (strAt xs k)
      have HZ : Hid ((bsOf (strAt xs k)).size ≤ 9223372036854775806) := Lib.hid (by rw [hz]; omega)
      have HNO := Lib.hid (fun h => namesOk_not (l := xs) hlt h)
      clear hz
      cases hb : nameB (strAt xs k) with
      | false =>
        have HF : Hid (namesOk xs = false) := Lib.hid (HNO.out (fun h => by rw [hb] at h; cases h.1))
        have HB := Lib.hid hb
        clear hb
        go_wp2_with fail
        refine (rname_any (bsOf (strAt xs k)) w HZ.out).mono ?_
        rintro e w1 ⟨rfl, hw⟩
        rw [hw, show nameB (bsOf (strAt xs k)).data.toList = false from HB.out]
        clear hw
        go_wp2
        go_ret
        exact ⟨ret_bool' HF.out, rfl⟩
      | true =>
        have HB := Lib.hid hb
        clear hb
        by_cases hi : idxI xs (strAt xs k) = k
        · have HI := Lib.hid hi
          have hi2 : (idxI xs (strAt xs k) != (k : Int)) = false := by simpa using hi
          clear hi
          go_wp2_with fail
          refine (rname_any (bsOf (strAt xs k)) w HZ.out).mono ?_
          rintro e w1 ⟨rfl, hw⟩
          rw [hw, show nameB (bsOf (strAt xs k)).data.toList = true from HB.out]
          clear hw
          go_wp2_with fail
          refine (rindex_any B w _ xs (strAt xs k) HV.out).mono ?_
          rintro e w1 ⟨rfl, hw⟩
          rw [hw]
          clear hw
          go_wp2
          go_round
          case rel =>
            refine ⟨k + 1, by omega, by go_num, fun j hj => ?_⟩
            by_cases hjk : j < k
            · exact HA.out j hjk
            · obtain rfl : j = k := by omega
              exact ⟨HB.out, HI.out⟩
          case measure => simp [intOf]; omega
        · have HF : Hid (namesOk xs = false) := Lib.hid (HNO.out (fun h => hi h.2))
          have hi2 : (idxI xs (strAt xs k) != (k : Int)) = true := by simpa using hi
          clear hi
          go_wp2_with fail
          refine (rname_any (bsOf (strAt xs k)) w HZ.out).mono ?_
          rintro e w1 ⟨rfl, hw⟩
          rw [hw, show nameB (bsOf (strAt xs k)).data.toList = true from HB.out]
          clear hw
          go_wp2_with fail
          refine (rindex_any B w _ xs (strAt xs k) HV.out).mono ?_
          rintro e w1 ⟨rfl, hw⟩
          rw [hw]
          clear hw
          go_wp2
          go_ret
          exact ⟨ret_bool' HF.out, rfl⟩
    · have HT : Hid (namesOk xs = true) := Lib.hid (namesOk_of (by have := HA.out; rwa [show k = xs.length by omega] at this))
      go_wp2
      go_ret
      exact ⟨ret_bool' HT.out, rfl⟩
end Go.Proofs.Ytmfbabmejbppjaa
