/-
  Layer 17: the walks of frankingref17: Same, Few (printed by tools/geny16.py).
-/
import Derived.Test.YtfnmidddgjlipaaGreatDoorY15
set_option linter.unusedVariables false
set_option linter.unusedSimpArgs false
namespace Go.Proofs.YtfnmidddgjlipaaGreatDoor
open Go.RowKit

def sameWs (xs ys : List WishD) : Bool := decide (xs = ys)
theorem take_wish {xs : List WishD} {k : Nat} (h : k < xs.length) : xs.take (k + 1) = xs.take k ++ [wishAt xs k] := by rw [List.take_succ_eq_append_getElem h, wishAt_get h]
set_option maxHeartbeats 4000000 in
set_option maxRecDepth 100000 in
theorem rsame17_any (B : Nat) (w : World) (v v' : Value) (xs ys : List WishD) (hB : B ≤ w.heap.size) (hv : IsWishes B w v xs) (hv' : IsWishes B w v' ys) :
    Calls Tryz.prog 8 #[v, v'] w fun e w' => e = .returned (.bool (sameWs xs ys)) ∧ Below w.heap.size w w' := by
  obtain ⟨a, c, rfl, hc1, hc2, hc3⟩ := hv.form
  obtain ⟨a', c', rfl, hd1, hd2, hd3⟩ := hv'.form
  have HV := Lib.hid hv
  have HV' := Lib.hid hv'
  clear hv hv'
  by_cases hl : xs.length = ys.length
  · have HL := Lib.hid hl
    have hne2 : ((xs.length : Int) != (ys.length : Int)) = false := by rw [hl]; simp
    clear hl
    go_enter Tryz.func8, Tryz.ntmps8
    go_wp2
    go_loopw [5] (fun i wr => ∃ k : Nat, k ≤ xs.length ∧ i = .int .i64 k ∧ xs.take k = ys.take k ∧ Below w.heap.size w wr) (fun i _ => xs.length - (intOf i).toNat)
    case atStart => exact ⟨0, by omega, rfl, rfl, Below.refl _ _⟩
    case round =>
      obtain ⟨k, hk, rfl, hno, hd⟩ := hrel
      have HN := Lib.hid hno
      have HD := Lib.hid hd
      have hsz := hd.size
      clear hno hd
      by_cases hlt : k < xs.length
      · have hlt' : k < ys.length := by rw [← HL.out]; exact hlt
        obtain ⟨b, off, va, rfl, bb, hst, hok, g0, g1, g2, g3, g4, g5, g6, g7, g8, g9, g10⟩ := IsWishes.cell (IsRecs.below wishK HV.out HD.out hB) hlt
        obtain ⟨b', off', va', rfl, bb', hst', hok', k0, k1, k2, k3, k4, k5, k6, k7, k8, k9, k10⟩ := IsWishes.cell (IsRecs.below wishK HV'.out HD.out hB) hlt'
        have hst2 := hst
        obtain ⟨av, cv, rfl, _, _, _⟩ := IsRecs.form hst2
        have hst2 := hst'
        obtain ⟨av', cv', rfl, _, _, _⟩ := IsRecs.form hst2
        have HT1 := Lib.hid (take_wish hlt)
        have HT2 := Lib.hid (take_wish hlt')
        obtain ⟨X, hX⟩ : ∃ X, wishAt xs k = X := ⟨_, rfl⟩
        obtain ⟨Y, hY⟩ : ∃ Y, wishAt ys k = Y := ⟨_, rfl⟩
        have HX := Lib.hid hX
        have HY := Lib.hid hY
        rw [hX] at hst HT1 g0 g1 g2 g3 g4 g5 g6 g7 g8 g9 g10
        rw [hY] at hst' HT2 k0 k1 k2 k3 k4 k5 k6 k7 k8 k9 k10
        have HS1 := Lib.hid (IsRecs.below strK hst (Drew.refl wr |>.drewN 1 |>.below _) (Nat.le_refl _))
        have HS2 := Lib.hid (IsRecs.below strK hst' (Drew.refl wr |>.drewN 1 |>.below _) (Nat.le_refl _))
        clear hX hY hst hst' hok hok'
        go_wp2
        go_still_tail 8, (by kernel_rfl)
        change wpList _ _ _ _ _ wr.drew
        clear g0 g1 g2 g3 g4 g5 g6 g7 g8 g9 g10 k0 k1 k2 k3 k4 k5 k6 k7 k8 k9 k10
        cases hE : sameW X Y with
        | true =>
          have HE := Lib.hid hE
          clear hE
          have HXY : Hid (X = Y) := Lib.hid (by have := HE.out; unfold sameW at this; simpa using this)
          go_wp2_with (go_at_call 17; refine (rswish_any B wr.drew _ _ X Y (by show B ≤ wr.heap.size; omega) HS1.out HS2.out).mono ?_; rintro e w5 ⟨rfl, hb5⟩; have HB5 : Hid (Below w.heap.size w w5) := Lib.hid (HD.out.trans ((Drew.refl wr |>.drewN 1 |>.below _).trans (hb5.mono hsz))); clear hb5; rw [HE.out])
          go_roundw
          case rel => exact ⟨k + 1, by omega, by go_num, by rw [HT1.out, HT2.out, HN.out, HXY.out], HB5.out⟩
          case measure => simp [intOf]; omega
        | false =>
          have HE := Lib.hid hE
          clear hE
          have hXY : X ≠ Y := by have := HE.out; unfold sameW at this; simpa using this
          have HF : Hid (sameWs xs ys = false) := Lib.hid (by unfold sameWs; rw [decide_eq_false]; rintro rfl; exact hXY (by rw [← HX.out, ← HY.out]))
          clear hXY
          go_wp2_with (go_at_call 17; refine (rswish_any B wr.drew _ _ X Y (by show B ≤ wr.heap.size; omega) HS1.out HS2.out).mono ?_; rintro e w5 ⟨rfl, hb5⟩; have HB5 : Hid (Below w.heap.size w w5) := Lib.hid (HD.out.trans ((Drew.refl wr |>.drewN 1 |>.below _).trans (hb5.mono hsz))); clear hb5; rw [HE.out])
          go_ret
          exact ⟨by rw [HF.out]; rfl, HB5.out⟩
      · have HT : Hid (sameWs xs ys = true) := Lib.hid (by
          have h := HN.out
          rw [List.take_of_length_le (by omega), List.take_of_length_le (by have := HL.out; omega)] at h
          unfold sameWs; rw [decide_eq_true h])
        go_wp2
        go_ret
        exact ⟨by rw [HT.out]; rfl, HD.out⟩
  · have HT : Hid (sameWs xs ys = false) := Lib.hid (by unfold sameWs; rw [decide_eq_false]; rintro rfl; exact hl rfl)
    have hne2 : ((xs.length : Int) != (ys.length : Int)) = true := by simp; omega
    clear hl
    go_enter Tryz.func8, Tryz.ntmps8
    go_wp2
    go_ret
    exact ⟨by rw [HT.out]; rfl, Below.refl _ _⟩


def fewX (x : WishD) : Bool := decide (x.name.length ≤ 40) && decide (x.frm.length ≤ 40) && decide (x.to.length ≤ 40) && decide (x.cls.length ≤ 40) && decide (x.against.length ≤ 30) && x.against.all (fun s => decide (s.length ≤ 40))
def few17 (l : List WishD) : Bool := (l.take 30).all fewX && decide (l.length ≤ 30)
theorem few_not {l : List WishD} {k : Nat} (hk : k < l.length) (h30 : k < 30) (h : fewX (wishAt l k) = false) : few17 l = false := by
  unfold few17
  have : (l.take 30).all fewX = false := by
    rw [List.all_eq_false]
    refine ⟨wishAt l k, ?_, by rw [h]; decide⟩
    rw [wishAt_get hk]
    exact List.mem_take_iff_getElem.2 ⟨k, by omega, rfl⟩
  rw [this]; rfl
theorem few_yes {l : List WishD} (h : ∀ j, j < l.length → j < 30 → fewX (wishAt l j) = true) : few17 l = decide (l.length ≤ 30) := by
  unfold few17
  have : (l.take 30).all fewX = true := by
    rw [List.all_eq_true]
    intro x hx
    obtain ⟨k, hk, rfl⟩ := List.mem_take_iff_getElem.1 hx
    have := h k (by omega) (by omega)
    rwa [wishAt_get (by omega)] at this
  rw [this]; rfl
theorem few_of {l : List WishD} (h : few17 l = true) : l.length ≤ 30 ∧ ∀ x ∈ l, fewX x = true := by
  unfold few17 at h
  simp only [Bool.and_eq_true, decide_eq_true_eq] at h
  refine ⟨h.2, fun x hx => ?_⟩
  rw [List.take_of_length_le h.2] at h
  exact List.all_eq_true.1 h.1 x hx

set_option maxHeartbeats 4000000 in
set_option maxRecDepth 100000 in
theorem few17_any (B : Nat) (w : World) (v : Value) (l : List WishD) (hB : B ≤ w.heap.size) (hv : IsWishes B w v l) :
    Calls Tryz.prog 9 #[v] w fun e w' => e = .returned (.bool (few17 l)) ∧ Below w.heap.size w w' := by
  obtain ⟨a, c, rfl, hc1, hc2, hc3⟩ := hv.form
  have HV := Lib.hid hv
  clear hv
  go_enter Tryz.func9, Tryz.ntmps9
  go_wp2
  go_loopw [3] (fun iv wr => ∃ k : Nat, k ≤ l.length ∧ k ≤ 30 ∧ iv = .int .i64 k ∧ (∀ j, j < k → fewX (wishAt l j) = true) ∧ Below w.heap.size w wr) (fun iv _ => l.length - (intOf iv).toNat)
  case atStart => exact ⟨0, by omega, by omega, rfl, fun j h => by omega, Below.refl _ _⟩
  case round =>
    obtain ⟨k, hk, hk3, rfl, hall, hd⟩ := hrel
    obtain ⟨wA, rfl⟩ : ∃ W, W = wr := ⟨_, rfl⟩
    have HALL := Lib.hid hall
    have HD := Lib.hid hd
    have hsz := hd.size
    clear hall hd
    by_cases hlt : k < l.length
    rotate_left
    · have HT : Hid (few17 l = decide (l.length ≤ 30)) := Lib.hid (few_yes (fun j h1 _ => HALL.out j (by omega)))
      by_cases h30 : l.length ≤ 30
      · have HF : Hid (few17 l = true) := Lib.hid (by rw [HT.out, decide_eq_true h30])
        go_wp2
        go_ret
        refine ⟨?_, HD.out⟩
        rw [HF.out]
        first | rfl | (congr 2; simp; omega)
      · have HF : Hid (few17 l = false) := Lib.hid (by rw [HT.out, decide_eq_false h30])
        go_wp2
        go_ret
        refine ⟨?_, HD.out⟩
        rw [HF.out]
        first | rfl | (congr 2; simp; omega)
    by_cases h30 : k < 30
    rotate_left
    · have HT : Hid (few17 l = false) := Lib.hid (by unfold few17; rw [decide_eq_false (by omega)]; simp)
      go_wp2
      go_ret
      refine ⟨?_, HD.out⟩
      rw [HT.out]
      first | rfl | (congr 2; simp; omega)
    obtain ⟨b, off, va, rfl, bb, hst, hok, g0, g1, g2, g3, g4, g5, g6, g7, g8, g9, g10⟩ := IsWishes.cell (IsRecs.below wishK HV.out HD.out hB) hlt
    obtain ⟨av, cv, rfl, hv1, hv2, hv3⟩ := IsRecs.form hst
    have HNO : Hid (fewX (wishAt l k) = false → few17 l = false) := Lib.hid (fun h => few_not hlt h30 h)
    obtain ⟨X, hX⟩ : ∃ X, wishAt l k = X := ⟨_, rfl⟩
    have HX := Lib.hid hX
    rw [hX] at hst g0 g1 g2 g3 g4 g5 g6 g7 g8 g9 g10 HNO hv1 hv3
    obtain ⟨b4, hb4⟩ : ∃ b, wA.heap.size = b := ⟨_, rfl⟩
    obtain ⟨W4, hW4⟩ : ∃ W, wA.alloc (.cells (wishC (.slice av X.against.length cv) X).toArray 34) = W := ⟨_, rfl⟩
    have HB4 : Hid (Below wA.heap.size wA W4) := Lib.hid (by rw [← hW4]; exact box_below' wA _)
    have hx4 : CellsN W4 b4 (wishC (.slice av X.against.length cv) X).toArray := by rw [← hW4, ← hb4]; exact CellsN.new _ _ _
    have HX4 := Lib.hid hx4
    have HST := Lib.hid (IsRecs.below strK hst (HB4.out.mono hsz) hB)
    have HW4 := Lib.hid hW4
    unfold wishC at HW4
    have HD4 : Hid (Below w.heap.size w W4) := Lib.hid (HD.out.trans (HB4.out.mono hsz))
    clear hst hok hX hW4
    go_upto_region 5 with fail
    rw [HW4.out]
    try rw [hb4]
    have HB4Z := Lib.hid hb4
    clear g0 g1 g2 g3 g4 g5 g6 g7 g8 g9 g10 hb4
    have x0 := hx4.cell 0
    have x1 := hx4.cell 1
    have x2 := hx4.cell 2
    have x3 := hx4.cell 3
    have x8 := hx4.cell 8
    simp [wishC] at x0 x1 x2 x3 x8
    clear hx4
    obtain ⟨l0, hl0⟩ : ∃ n, X.name.length = n := ⟨_, rfl⟩
    have HL0 := Lib.hid hl0
    have hz0 : (⟨X.name.toArray⟩ : ByteArray).size = l0 := by rw [← hl0]; simp [ByteArray.size]
    clear hl0
    obtain ⟨l1, hl1⟩ : ∃ n, X.frm.length = n := ⟨_, rfl⟩
    have HL1 := Lib.hid hl1
    have hz1 : (⟨X.frm.toArray⟩ : ByteArray).size = l1 := by rw [← hl1]; simp [ByteArray.size]
    clear hl1
    obtain ⟨l2, hl2⟩ : ∃ n, X.to.length = n := ⟨_, rfl⟩
    have HL2 := Lib.hid hl2
    have hz2 : (⟨X.to.toArray⟩ : ByteArray).size = l2 := by rw [← hl2]; simp [ByteArray.size]
    clear hl2
    obtain ⟨l3, hl3⟩ : ∃ n, X.cls.length = n := ⟨_, rfl⟩
    have HL3 := Lib.hid hl3
    have hz3 : (⟨X.cls.toArray⟩ : ByteArray).size = l3 := by rw [← hl3]; simp [ByteArray.size]
    clear hl3
    by_cases q0 : l0 ≤ 40
    rotate_left
    · have HT : Hid (few17 l = false) := Lib.hid (HNO.out (by unfold fewX; rw [decide_eq_false (p := X.name.length ≤ 40) (by have := HL0.out; omega)]; simp))
      have r0 : (40 : Int) < (l0 : Int) := by omega
      clear q0
      go_wp2
      go_ret
      exact ⟨by rw [HT.out]; rfl, HD4.out⟩
    have r0 : ¬ (40 : Int) < (l0 : Int) := by omega
    by_cases q1 : l1 ≤ 40
    rotate_left
    · have HT : Hid (few17 l = false) := Lib.hid (HNO.out (by unfold fewX; rw [decide_eq_false (p := X.frm.length ≤ 40) (by have := HL1.out; omega)]; simp))
      have r1 : (40 : Int) < (l1 : Int) := by omega
      clear q1
      go_wp2
      go_ret
      exact ⟨by rw [HT.out]; rfl, HD4.out⟩
    have r1 : ¬ (40 : Int) < (l1 : Int) := by omega
    by_cases q2 : l2 ≤ 40
    rotate_left
    · have HT : Hid (few17 l = false) := Lib.hid (HNO.out (by unfold fewX; rw [decide_eq_false (p := X.to.length ≤ 40) (by have := HL2.out; omega)]; simp))
      have r2 : (40 : Int) < (l2 : Int) := by omega
      clear q2
      go_wp2
      go_ret
      exact ⟨by rw [HT.out]; rfl, HD4.out⟩
    have r2 : ¬ (40 : Int) < (l2 : Int) := by omega
    by_cases q3 : l3 ≤ 40
    rotate_left
    · have HT : Hid (few17 l = false) := Lib.hid (HNO.out (by unfold fewX; rw [decide_eq_false (p := X.cls.length ≤ 40) (by have := HL3.out; omega)]; simp))
      have r3 : (40 : Int) < (l3 : Int) := by omega
      clear q3
      go_wp2
      go_ret
      exact ⟨by rw [HT.out]; rfl, HD4.out⟩
    have r3 : ¬ (40 : Int) < (l3 : Int) := by omega
    by_cases q8 : X.against.length ≤ 30
    rotate_left
    · have HT : Hid (few17 l = false) := Lib.hid (HNO.out (by unfold fewX; rw [decide_eq_false (p := X.against.length ≤ 30) q8]; simp))
      have r8 : (30 : Int) < (X.against.length : Int) := by omega
      clear q8
      go_wp2
      go_ret
      exact ⟨by rw [HT.out]; rfl, HD4.out⟩
    have r8 : ¬ (30 : Int) < (X.against.length : Int) := by omega
    go_upto_region 7 with fail
    clear r0 r1 r2 r3 r8 x0 x1 x2 x3 x8
    have HF4 : Hid (fewX X = X.against.all (fun s => decide (s.length ≤ 40))) := Lib.hid (by
      unfold fewX
      rw [decide_eq_true (p := X.name.length ≤ 40) (by have := HL0.out; omega), decide_eq_true (p := X.frm.length ≤ 40) (by have := HL1.out; omega), decide_eq_true (p := X.to.length ≤ 40) (by have := HL2.out; omega), decide_eq_true (p := X.cls.length ≤ 40) (by have := HL3.out; omega), decide_eq_true q8]
      rfl)
    clear hz0 hz1 hz2 hz3
    go_wp2_with fail
    go_loopw [5] (fun iv wr => ∃ m : Nat, m ≤ X.against.length ∧ iv = .int .i64 m ∧ Drew W4 wr ∧ ∀ j, j < m → (strAt X.against j).length ≤ 40) (fun iv _ => X.against.length - (intOf iv).toNat)
    case atStart => exact ⟨0, by omega, rfl, Drew.refl _, fun j h => by omega⟩
    case round =>
      obtain ⟨m, hm, rfl, hdr, hal⟩ := hrel
      have HDR := Lib.hid hdr
      have HAL := Lib.hid hal
      have x8 := (hdr.cell _).trans (HX4.out.cell 8)
      simp [wishC] at x8
      clear hdr hal
      by_cases hmt : m < X.against.length
      focus
        obtain ⟨bs, os, rfl, bbs, s0, _⟩ := IsStrs.cell HST.out hmt
        have s0' := (HDR.out.cell _).trans s0
        obtain ⟨sx, hsx⟩ : ∃ s, strAt X.against m = s := ⟨_, rfl⟩
        have HSX := Lib.hid hsx
        rw [hsx] at s0'
        obtain ⟨ls, hls⟩ : ∃ n, sx.length = n := ⟨_, rfl⟩
        have HLS := Lib.hid hls
        have hzs : (⟨sx.toArray⟩ : ByteArray).size = ls := by rw [← hls]; simp [ByteArray.size]
        clear s0 hsx hls
        by_cases qs : ls ≤ 40
        · have rs : ¬ (40 : Int) < (ls : Int) := by omega
          go_wp2
          go_roundw
          case rel =>
            refine ⟨m + 1, by omega, by go_num, HDR.out, fun j hj => ?_⟩
            by_cases hjm : j < m
            · exact HAL.out j hjm
            · obtain rfl : j = m := by omega
              rw [HSX.out, HLS.out]; exact qs
          case measure => simp [intOf]; omega
        · have rs : (40 : Int) < (ls : Int) := by omega
          have HT : Hid (few17 l = false) := Lib.hid (HNO.out (by
            rw [HF4.out, List.all_eq_false]
            refine ⟨sx, ?_, by simp [HLS.out]; omega⟩
            rw [← HSX.out, strAt_get hmt]; exact List.getElem_mem hmt))
          go_wp2
          go_ret
          exact ⟨by rw [HT.out]; rfl, HD4.out.trans (HDR.out.below _)⟩
      have HFX : Hid (fewX X = true) := Lib.hid (by
        rw [HF4.out, List.all_eq_true]
        intro s hs
        obtain ⟨j, hj, rfl⟩ := List.getElem_of_mem hs
        have := HAL.out j (by omega)
        rw [strAt_get hj] at this
        exact decide_eq_true this)
      go_wp2
      go_roundw
      case rel =>
        refine ⟨k + 1, by omega, by omega, by go_num, fun j hj => ?_, HD4.out.trans (HDR.out.below _)⟩
        by_cases hjk : j < k
        · exact HALL.out j hjk
        · obtain rfl : j = k := by omega
          rw [HX.out]; exact HFX.out
      case measure => simp [intOf]; omega
end Go.Proofs.YtfnmidddgjlipaaGreatDoor
