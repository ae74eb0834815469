/-
  Layer 18: the walks of slices.ContainsFunc (names, limits), tooMany.
-/
import Derived.Test.YtmfbabmejbppjaaOr2
set_option linter.unusedVariables false
set_option linter.unusedSimpArgs false
namespace Go.Proofs.Ytmfbabmejbppjaa
open Go.RowKit

set_option maxHeartbeats 1000000 in
set_option maxRecDepth 100000 in
theorem readC_any (s : Str) (w : World) (hs : s.length ≤ 140737488351232) : Calls Try.prog 36 #[strV s] w fun e w' => e = .returned (.bool (!nameB s)) ∧ w' = w := by
  have hz := len_mk s
  go_enter Try.func36, Try.ntmps36
  go_wp2_with fail
  refine (name_any (bsOf s) w (by rw [hz]; omega)).mono ?_
  rintro e w1 ⟨rfl, rfl⟩
  go_wp2
  go_ret
  exact ⟨rfl, rfl⟩

set_option maxHeartbeats 2000000 in
set_option maxRecDepth 100000 in
theorem idxfS_any (B : Nat) (w : World) (v : Value) (xs : List Str) (hv : IsStrs B w v xs) :
    Calls Try.prog 44 #[v, .func (.func 36) #[] #[]] w fun e w' => ∃ n : Int, e = .returned (.int .i64 n) ∧ decide (0 ≤ n) = !xs.all nameB ∧ w' = w := by
  obtain ⟨a, c, rfl, hc1, hc2, hc3⟩ := hv.form
  have HV := Lib.hid hv
  clear hv
  go_enter Try.func44, Try.ntmps44
  go_wp2
  go_loop [8] (fun i => ∃ k : Nat, k ≤ xs.length ∧ i = .int .i64 k ∧ (xs.take k).all nameB = true) (fun i => xs.length - (intOf i).toNat)
  case atStart => exact ⟨0, by omega, rfl, rfl⟩
  case round =>
    obtain ⟨k, hk, rfl, hall⟩ := hrel
    have HA := Lib.hid hall
    clear hall
    by_cases hlt : k < xs.length
    · obtain ⟨b, off, rfl, bb, g0, gl⟩ := IsStrs.cell HV.out hlt
      have HT : Hid (xs.take (k + 1) = xs.take k ++ [strAt xs k]) := Lib.hid (by rw [List.take_succ_eq_append_getElem hlt, strAt_get hlt])
      cases hb : nameB (strAt xs k) with
      | true =>
        have HB := Lib.hid hb
        clear hb
        go_wp2_with fail
        refine (readC_any (strAt xs k) w gl).mono ?_
        rintro e w1 ⟨rfl, hw⟩
        rw [hw, HB.out]
        clear hw
        go_wp2
        go_round
        case rel => exact ⟨k + 1, by omega, by go_num, by rw [HT.out, List.all_append, HA.out]; simp [HB.out]⟩
        case measure => simp [intOf]; omega
      | false =>
        have HB := Lib.hid hb
        have HF : Hid (xs.all nameB = false) := Lib.hid (by
          rw [List.all_eq_false]
          exact ⟨strAt xs k, by rw [strAt_get hlt]; exact List.getElem_mem hlt, by rw [hb]; simp⟩)
        clear hb
        go_wp2_with fail
        refine (readC_any (strAt xs k) w gl).mono ?_
        rintro e w1 ⟨rfl, hw⟩
        rw [hw, HB.out]
        clear hw
        go_wp2
        go_ret
        exact ⟨k, rfl, by rw [HF.out]; simp, rfl⟩
    · have HF : Hid (xs.all nameB = true) := Lib.hid (by have := HA.out; rwa [List.take_of_length_le (by omega)] at this)
      go_wp2
      go_ret
      exact ⟨-1, rfl, by rw [HF.out]; rfl, rfl⟩

set_option maxHeartbeats 1000000 in
set_option maxRecDepth 100000 in
theorem contS_any (B : Nat) (w : World) (v : Value) (xs : List Str) (hv : IsStrs B w v xs) :
    Calls Try.prog 35 #[v, .func (.func 36) #[] #[]] w fun e w' => e = .returned (.bool (!xs.all nameB)) ∧ w' = w := by
  have HV := Lib.hid hv
  clear hv
  go_enter Try.func35, Try.ntmps35
  go_wp2_with fail
  refine (idxfS_any B w v xs HV.out).mono ?_
  rintro e w1 ⟨n, rfl, hn, rfl⟩
  have HN := Lib.hid hn
  clear hn
  go_wp2
  go_ret
  exact ⟨by rw [← HN.out]; rfl, rfl⟩

/-! ### limits -/
def manyR (B : Nat) (w : World) (c : List Value) (x : Int × Int) : Prop := c = [.int .i64 x.1, .int .i64 x.2] ∧ I64 x.1 ∧ I64 x.2
theorem manyK : RecK 2 manyR := ⟨fun h => by rw [h.1]; rfl, fun h u hu => by rw [h.1] at hu; simp at hu; rcases hu with rfl | rfl <;> rfl, fun h _ _ => h, fun h _ => h⟩
abbrev IsMany := IsRecs 2 manyR 1000000 ((0, 0) : Int × Int)
def manyAt (l : List (Int × Int)) (k : Nat) : Int × Int := l.getD k (0, 0)
theorem manyAt_get {l : List (Int × Int)} {k : Nat} (h : k < l.length) : manyAt l k = l[k] := by unfold manyAt; rw [List.getD_eq_getElem?_getD, List.getElem?_eq_getElem h]; rfl
theorem IsMany.cell {B : Nat} {w : World} {a : Option Addr} {c : Nat} {xs : List (Int × Int)} (h : IsMany B w (.slice a xs.length c) xs) {k : Nat} (hk : k < xs.length) : ∃ b off, a = some ⟨b, off, none⟩ ∧ b < B ∧ w.cell? ⟨b, off + k * 2, none⟩ = some (.int .i64 (manyAt xs k).1) ∧ w.cell? ⟨b, off + k * 2 + 1, none⟩ = some (.int .i64 (manyAt xs k).2) ∧ I64 (manyAt xs k).1 ∧ I64 (manyAt xs k).2 := by
  obtain ⟨b, off, cs, h1, h2, ⟨h3, h4, h6⟩, h5⟩ := h.cells manyK (by decide) hk
  subst h3
  exact ⟨b, off, h1, h2, h5 0 _ rfl, h5 1 _ rfl, h4, h6⟩
def overB (p : Int × Int) : Bool := decide (p.2 < p.1)

set_option maxHeartbeats 1000000 in
set_option maxRecDepth 100000 in
theorem manyC_any (n m : Int) (w : World) (hn : I64 n) (hm : I64 m) : Calls Try.prog 39 #[.agg #[.int .i64 n, .int .i64 m]] w fun e w' => e = .returned (.bool (overB (n, m))) ∧ Below w.heap.size w w' := by
  obtain ⟨n1, n2⟩ := hn
  obtain ⟨m1, m2⟩ := hm
  have HB := Lib.hid (box_below' w (.cells #[.int .i64 n, .int .i64 m] 58))
  go_enter Try.func39, Try.ntmps39
  go_wp2
  go_ret
  exact ⟨rfl, HB.out⟩

set_option maxHeartbeats 2000000 in
set_option maxRecDepth 100000 in
theorem idxfM_any (B : Nat) (w : World) (v : Value) (xs : List (Int × Int)) (hB : B ≤ w.heap.size) (hv : IsMany B w v xs) :
    Calls Try.prog 46 #[v, .func (.func 39) #[] #[]] w fun e w' => ∃ n : Int, e = .returned (.int .i64 n) ∧ decide (0 ≤ n) = xs.any overB ∧ Below w.heap.size w w' := by
  obtain ⟨a, c, rfl, hc1, hc2, hc3⟩ := hv.form
  have HV := Lib.hid hv
  clear hv
  go_enter Try.func46, Try.ntmps46
  go_wp2
  go_loopw [8] (fun i wr => ∃ k : Nat, k ≤ xs.length ∧ i = .int .i64 k ∧ (xs.take k).any overB = false ∧ Below w.heap.size w wr) (fun i _ => xs.length - (intOf i).toNat)
  case atStart => exact ⟨0, by omega, rfl, rfl, Below.refl _ _⟩
  case round =>
    obtain ⟨k, hk, rfl, hall, hbr⟩ := hrel
    have HA := Lib.hid hall
    have HBR := Lib.hid hbr
    have hzr := hbr.size
    clear hall hbr
    by_cases hlt : k < xs.length
    · obtain ⟨b, off, rfl, bb, g0, g1, k0, k1⟩ := IsMany.cell (HV.out.below manyK HBR.out hB) hlt
      have HT : Hid (xs.take (k + 1) = xs.take k ++ [manyAt xs k]) := Lib.hid (by rw [List.take_succ_eq_append_getElem hlt, manyAt_get hlt])
      cases hb : overB (manyAt xs k) with
      | false =>
        have HB := Lib.hid hb
        clear hb
        go_wp2_with fail
        refine (manyC_any (manyAt xs k).1 (manyAt xs k).2 wr k0 k1).mono ?_
        rintro e w1 ⟨rfl, hb⟩
        have HB1 : Hid (Below w.heap.size w w1) := Lib.hid (HBR.out.trans (hb.mono hzr))
        rw [show overB ((manyAt xs k).1, (manyAt xs k).2) = false from HB.out]
        clear hb g0 g1
        go_wp2
        go_roundw
        case rel => exact ⟨k + 1, by omega, by go_num, by rw [HT.out, List.any_append, HA.out]; simp [HB.out], HB1.out⟩
        case measure => simp [intOf]; omega
      | true =>
        have HB := Lib.hid hb
        have HF : Hid (xs.any overB = true) := Lib.hid (by
          rw [List.any_eq_true]
          exact ⟨manyAt xs k, by rw [manyAt_get hlt]; exact List.getElem_mem hlt, hb⟩)
        clear hb
        go_wp2_with fail
        refine (manyC_any (manyAt xs k).1 (manyAt xs k).2 wr k0 k1).mono ?_
        rintro e w1 ⟨rfl, hb⟩
        have HB1 : Hid (Below w.heap.size w w1) := Lib.hid (HBR.out.trans (hb.mono hzr))
        rw [show overB ((manyAt xs k).1, (manyAt xs k).2) = true from HB.out]
        clear hb g0 g1
        go_wp2
        go_ret
        exact ⟨k, rfl, by rw [HF.out]; simp, HB1.out⟩
    · have HF : Hid (xs.any overB = false) := Lib.hid (by have := HA.out; rwa [List.take_of_length_le (by omega)] at this)
      go_wp2
      go_ret
      exact ⟨-1, rfl, by rw [HF.out]; rfl, HBR.out⟩

set_option maxHeartbeats 1000000 in
set_option maxRecDepth 100000 in
theorem tooMany_any (B : Nat) (w : World) (v : Value) (xs : List (Int × Int)) (hB : B ≤ w.heap.size) (hv : IsMany B w v xs) :
    Calls Try.prog 25 #[v] w fun e w' => e = .returned (.bool (xs.any overB)) ∧ Below w.heap.size w w' := by
  have HV := Lib.hid hv
  clear hv
  have HC : Hid (Calls Try.prog 38 #[v, .func (.func 39) #[] #[]] w fun e w' => e = .returned (.bool (xs.any overB)) ∧ Below w.heap.size w w') := Lib.hid (by
    go_enter Try.func38, Try.ntmps38
    go_wp2_with fail
    refine (idxfM_any B w v xs hB HV.out).mono ?_
    rintro e w1 ⟨n, rfl, hn, hb⟩
    have HN := Lib.hid hn
    have HB1 := Lib.hid hb
    clear hn hb
    go_wp2
    go_ret
    exact ⟨by rw [← HN.out]; rfl, HB1.out⟩)
  go_enter Try.func25, Try.ntmps25
  go_wp2_with fail
  refine HC.out.mono ?_
  rintro e w1 ⟨rfl, hb⟩
  have HB1 := Lib.hid hb
  clear hb
  go_wp2
  go_ret
  exact ⟨rfl, HB1.out⟩
end Go.Proofs.Ytmfbabmejbppjaa
