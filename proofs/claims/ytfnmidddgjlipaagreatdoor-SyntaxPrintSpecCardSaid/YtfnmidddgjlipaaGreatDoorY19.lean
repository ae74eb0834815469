/-
  Layer 17: the walk of Print (printed by tools/geny19.py).
-/
import Derived.Test.YtfnmidddgjlipaaGreatDoorY18
set_option linter.unusedVariables false
set_option linter.unusedSimpArgs false
namespace Go.Proofs.YtfnmidddgjlipaaGreatDoor
open Go.RowKit

def prOk (l : List WishD) : Bool := decide (textE (ordsT l) = 0) && decide (readE (ordsT l) = 0) && sameWs l (readL (ordsT l))
def prS (l : List WishD) : Str := if prOk l then textL (ordsT l) else []
def prE (l : List WishD) : Int := if prOk l then 0 else 170
/-- small enough to be printed -/
structure PrFew (l : List WishD) : Prop where
  len : (ordsT l).length ≤ 100000
  txt : ∀ t ∈ ordsT l, t.text.length ≤ 100000
  ag : ∀ x ∈ l, x.against.length ≤ 1000000
theorem ordsT_take {l : List WishD} {k : Nat} (h : k < l.length) : ordsT (l.take (k + 1)) = ordsT (l.take k) ++ ordT (wishAt l k) := by
  unfold ordsT
  rw [take_wish h, List.flatMap_append]
  simp
theorem ordsT_le (l : List WishD) (k : Nat) : (ordsT (l.take k)).length ≤ (ordsT l).length := by
  have h : ordsT l = ordsT (l.take k) ++ ordsT (l.drop k) := by
    unfold ordsT
    rw [← List.flatMap_append, List.take_append_drop]
  rw [h, List.length_append]
  omega
theorem laid_fr {S : Nat} {o : Option Nat} {w w' : World} (h : LaidW w) (hf : Fr S o w w') (hS : 4 ≤ S) (ho : ∀ q, o = some q → 4 ≤ q) : LaidW w' := h.below (hf.below hS ho h.size) (Nat.le_refl _)

theorem results_two {fn : Func} {t u : Tmp} (h : fn.results = #[.tmp t, .tmp u]) (tmps : Array Value) (P : Program) (w : World) :
    (results fn tmps).run P w = .ok (.tuple #[tmps.getD t undef, tmps.getD u undef]) w := by
  simp [results, h]
set_option maxHeartbeats 8000000 in
set_option maxRecDepth 100000 in
theorem print_any (B : Nat) (w : World) (v : Value) (l : List WishD) (hL : LaidW w) (hB : B ≤ w.heap.size) (hv : IsWishes B w v l) (hf : PrFew l) :
    Calls Tryz.prog 10 #[v] w fun e w' => e = .returned (.tuple #[strV (prS l), .int .i64 (prE l)]) ∧ Below w.heap.size w w' := by
  obtain ⟨a, c, rfl, hc1, hc2, hc3⟩ := hv.form
  obtain ⟨S, hS⟩ : ∃ S, w.heap.size = S := ⟨_, rfl⟩
  obtain ⟨W0, hW0⟩ : ∃ W, w.alloc (.cells #[.slice none 0 0] 46) = W := ⟨_, rfl⟩
  have hb0 : Below w.heap.size w W0 := by rw [← hW0]; exact box_below' w _
  have HB0 := Lib.hid hb0
  have HL0 := Lib.hid (hL.below hb0 hL.size)
  have HV0 := Lib.hid (IsRecs.below wishK hv hb0 hB)
  have h4 : 4 ≤ S := by rw [← hS]; exact hL.size
  have hBS : B ≤ S := by omega
  have HWR : Hid (Wri S W0 (.slice none 0 0) []) := Lib.hid ⟨by rw [← hW0, ← hS]; exact Cell1.new _ _ _, OwnToks.nil _ _⟩
  have HW0 := Lib.hid hW0
  have HSZ := Lib.hid hS
  have HFW := Lib.hid hf
  clear hv hL hb0 hW0 hf
  go_enter Tryz.func10, Tryz.ntmps10
  go_upto_region 2 with fail
  rw [HW0.out]
  try rw [hS]
  clear hS
  go_wp2_with fail
  go_loopw [14] (fun kv wr => ∃ (k : Nat) (v' : Value), k ≤ l.length ∧ kv = .int .i64 k ∧ Wri S wr v' (ordsT (l.take k)) ∧ Below S W0 wr) (fun kv _ => l.length - (intOf kv).toNat)
  case atStart => exact ⟨0, _, by omega, rfl, HWR.out, Below.refl _ _⟩
  case round =>
    obtain ⟨k, v', hk, rfl, hw, hb⟩ := hrel
    have HW := Lib.hid hw
    have HB := Lib.hid hb
    have hlt2 := hw.1.lt
    by_cases hkl : k < l.length
    focus
      obtain ⟨b, off, va, rfl, bb, hst, hok, g0, g1, g2, g3, g4, g5, g6, g7, g8, g9, g10⟩ := IsWishes.cell (IsRecs.below wishK HV0.out hb hBS) hkl
      obtain ⟨av, cv, rfl, hcv1, hcv2, hcv3⟩ := IsRecs.form hst
      have hag := HFW.out.ag (wishAt l k) (by rw [wishAt_get hkl]; exact List.getElem_mem hkl)
      have HTK := Lib.hid (ordsT_take hkl)
      have hlen := ordsT_le l k
      have hlenF := HFW.out.len
      obtain ⟨x, hx⟩ : ∃ x, wishAt l k = x := ⟨_, rfl⟩
      rw [hx] at hst hok g0 g1 g2 g3 g4 g5 g6 g7 g8 g9 g10 hag HTK
      have HST := Lib.hid hst
      have HOKX := Lib.hid hok
      obtain ⟨W1, hW1⟩ : ∃ W, wr.alloc (.cells #[strV x.name, strV x.frm, strV x.to, strV x.cls, .int .i64 x.after, .int .i64 x.by_, .int .i64 x.crowd, .int .i64 x.pay, .slice av x.against.length cv, .bool x.back, .int .i64 x.els] 34) = W := ⟨_, rfl⟩
      have hb1 : Below wr.heap.size wr W1 := by rw [← hW1]; exact box_below' wr _
      have HB1 := Lib.hid hb1
      have HX1 : Hid (CellsN W1 wr.heap.size #[strV x.name, strV x.frm, strV x.to, strV x.cls, .int .i64 x.after, .int .i64 x.by_, .int .i64 x.crowd, .int .i64 x.pay, .slice av x.against.length cv, .bool x.back, .int .i64 x.els]) := Lib.hid (by rw [← hW1]; exact CellsN.new _ _ _)
      have HWR1 : Hid (Wri S W1 v' (ordsT (l.take k))) := Lib.hid (by rw [← hW1]; exact ⟨hw.1.alloc _, hw.2.alloc _⟩)
      have HST1 := Lib.hid (IsRecs.below strK HST.out (hb1.mono (by omega)) (Nat.le_refl B))
      have HOWN : Hid (∀ q, v'.ownBlock = some q → S ≤ q) := Lib.hid fun q e => by have := (hw.2.lt q e).1; omega
      have HW1 := Lib.hid hW1
      clear hw hb hst hok hx hb1 hW1 bb
      go_upto_region 5 with fail
      rw [HW1.out]
      clear g0 g1 g2 g3 g4 g5 g6 g7 g8 g9 g10
      have p0 := HX1.out.cell 0
      have p1 := HX1.out.cell 1
      have p2 := HX1.out.cell 2
      have p3 := HX1.out.cell 3
      have p4 := HX1.out.cell 4
      have p5 := HX1.out.cell 5
      have p6 := HX1.out.cell 6
      have p7 := HX1.out.cell 7
      have p8 := HX1.out.cell 8
      have p9 := HX1.out.cell 9
      have p10 := HX1.out.cell 10
      simp at p0 p1 p2 p3 p4 p5 p6 p7 p8 p9 p10
      have HCL := Lib.hid (order_any S B W1 v' (ordsT (l.take k)) (.slice av x.against.length cv) x HWR1.out hBS HST1.out HOKX.out hag (by omega))
      go_wp2_with fail
      clear p0 p1 p2 p3 p4 p5 p6 p7 p8 p9 p10
      refine HCL.out.mono ?_
      rintro e w5 ⟨rfl, v5, hw5, hf5, ho5⟩
      have HW5 := Lib.hid hw5
      have HB5 : Hid (Below S W0 w5) := Lib.hid ((HB.out.trans (HB1.out.mono (by omega))).trans (hf5.below (Nat.le_refl _) HOWN.out (by have := HB1.out.size; omega)))
      clear hw5 hf5 ho5
      go_wp2_with fail
      go_roundw
      case rel => exact ⟨k + 1, v5, by omega, by go_num, by rw [HTK.out]; exact HW5.out, HB5.out⟩
      case measure => simp [intOf]; omega
    obtain rfl : k = l.length := by omega
    rw [List.take_length] at HW hw
    obtain ⟨av, nv, cv, rfl⟩ := hw.2.form'
    have c0 := hw.1.cell
    have HT1 := Lib.hid hw.2.isToks
    have hLr := HL0.out.below hb h4
    have HLR := Lib.hid hLr
    have HVR := Lib.hid ((IsRecs.below wishK HV0.out hb hBS).mono wishK (show B ≤ wr.heap.size by omega))
    have HBW : Hid (Below w.heap.size w wr) := Lib.hid (HB0.out.trans (hb.mono (by have := HSZ.out; omega)))
    obtain ⟨T, hT⟩ : ∃ T, ordsT l = T := ⟨_, rfl⟩
    have hPO : prOk l = (decide (textE T = 0) && decide (readE T = 0) && sameWs l (readL T)) := by unfold prOk; rw [hT]
    have hPS : prS l = if prOk l then textL T else [] := by unfold prS; rw [hT]
    have HPO := Lib.hid hPO
    have HPS := Lib.hid hPS
    rw [hT] at HT1
    have hTl : T.length ≤ 100000 := by rw [← hT]; exact HFW.out.len
    have HTX : Hid (∀ t ∈ T, t.text.length ≤ 100000) := Lib.hid (by rw [← hT]; exact HFW.out.txt)
    have HCE := Lib.hid hw.1
    clear hw hb hkl hT hPO hPS hLr
    go_wp2_with fail
    refine (text_any wr.heap.size wr (.slice av nv cv) T HLR.out (Nat.le_refl _) HT1.out hTl HTX.out).mono ?_
    rintro e w2 ⟨rfl, hb2⟩
    have HB2 : Hid (Below w.heap.size w w2) := Lib.hid (HBW.out.trans (hb2.mono HBW.out.size))
    have HT2 := Lib.hid (HT1.out.below hb2 (Nat.le_refl _))
    have HV2 := Lib.hid (IsRecs.below wishK HVR.out hb2 (Nat.le_refl _))
    have hsz2 := hb2.size
    have c2 := (HCE.out.ext hb2).cell
    clear hb2 c0
    obtain ⟨E, hE⟩ : ∃ E, textE T = E := ⟨_, rfl⟩
    obtain ⟨X, hX⟩ : ∃ X, textL T = X := ⟨_, rfl⟩
    rw [hE] at HPO
    rw [hX] at HPS
    simp only [hE, hX]
    clear hE hX
    by_cases hE0 : E = 0
    rotate_left
    · have hEb : (E != 0) = true := by simpa using hE0
      have HP : Hid (prS l = [] ∧ prE l = 170) := Lib.hid (by
        have h : prOk l = false := by rw [HPO.out, decide_eq_false hE0]; rfl
        exact ⟨by rw [HPS.out, h]; rfl, by unfold prE; rw [h]; rfl⟩)
      clear hE0
      go_wp2
      refine bodyPost_ret (results_two rfl _ _ _) rfl ?_
      exact ⟨by rw [HP.out.1, HP.out.2]; rfl, HB2.out⟩
    subst hE0
    go_wp2_with fail
    clear c2
    refine (read_any wr.heap.size w2 (.slice av nv cv) T 0 hsz2 HT2.out (by omega)).mono ?_
    rintro e w3 ⟨v3, rfl, ho3, hb3⟩
    have HB3 : Hid (Below w.heap.size w w3) := Lib.hid (HB2.out.trans (hb3.mono HB2.out.size))
    have HV3 := Lib.hid ((IsRecs.below wishK HV2.out (hb3.mono hsz2) (Nat.le_refl _)))
    have HR3 := Lib.hid (ownWs_is ho3)
    have hsz3 := hb3.size
    obtain ⟨a3, n3, c3, rfl⟩ := ho3.form'
    clear hb3 ho3
    obtain ⟨R, hR⟩ : ∃ R, readE T = R := ⟨_, rfl⟩
    obtain ⟨P, hP⟩ : ∃ P, readP 0 T = P := ⟨_, rfl⟩
    rw [hR] at HPO
    simp only [hR, hP]
    clear hR hP
    by_cases hR0 : R = 0
    rotate_left
    · have hRb : (R != 0) = true := by simpa using hR0
      have HP : Hid (prS l = [] ∧ prE l = 170) := Lib.hid (by
        have h : prOk l = false := by rw [HPO.out, decide_eq_false hR0]; rfl
        exact ⟨by rw [HPS.out, h]; rfl, by unfold prE; rw [h]; rfl⟩)
      clear hR0
      go_wp2
      refine bodyPost_ret (results_two rfl _ _ _) rfl ?_
      exact ⟨by rw [HP.out.1, HP.out.2]; rfl, HB3.out⟩
    subst hR0
    go_wp2_with fail
    refine (same17_any w3.heap.size w3 _ _ l (readL T) (Nat.le_refl _) (HV3.out.mono wishK (by omega)) HR3.out).mono ?_
    rintro e w4 ⟨rfl, hb4⟩
    have HB4 : Hid (Below w.heap.size w w4) := Lib.hid (HB3.out.trans (hb4.mono HB3.out.size))
    clear hb4
    cases hs : sameWs l (readL T) with
    | false =>
      have HP : Hid (prS l = [] ∧ prE l = 170) := Lib.hid (by
        have h : prOk l = false := by rw [HPO.out, hs]; rfl
        exact ⟨by rw [HPS.out, h]; rfl, by unfold prE; rw [h]; rfl⟩)
      clear hs
      go_wp2
      refine bodyPost_ret (results_two rfl _ _ _) rfl ?_
      exact ⟨by rw [HP.out.1, HP.out.2]; rfl, HB4.out⟩
    | true =>
      have HP : Hid (prS l = X ∧ prE l = 0) := Lib.hid (by
        have h : prOk l = true := by rw [HPO.out, hs]; rfl
        exact ⟨by rw [HPS.out, h]; rfl, by unfold prE; rw [h]; rfl⟩)
      clear hs
      go_wp2
      refine bodyPost_ret (results_two rfl _ _ _) rfl ?_
      exact ⟨by rw [HP.out.1, HP.out.2]; rfl, HB4.out⟩
end Go.Proofs.YtfnmidddgjlipaaGreatDoor
