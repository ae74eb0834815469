/-
  Layer 31: the walk of PromiseMore.
-/
import Derived.Test.YtndcbnnbgedgcaaP31o
import Derived.Test.YtndcbnnbgedgcaaS31c
import Derived.Test.YtndcbnnbgedgcaaApp
import Derived.Deep.RegionLaw
import Derived.Deep.RegionHeldLaw
import Derived.Shelf.Spec.TrailingZeros
import Derived.Deep.DrawnRows
set_option linter.unusedVariables false
set_option linter.unusedSimpArgs false
namespace Go.Proofs.Ytndcbnnbgedgcaa
open Go.RowKit

theorem and_one32 (n : Nat) (hn : n < 4294967296) (k : Nat) : (bits BinOp.and IntKind.u32 ((n : Int) / 2 ^ k) 1 == 1) = n.testBit k := by
  have e : ((n : Int) / 2 ^ k) = ((n / 2 ^ k : Nat) : Int) := by simp
  have h1 : n / 2 ^ k < 4294967296 := Nat.lt_of_le_of_lt (Nat.div_le_self _ _) hn
  rw [e, show (1 : Int) = ((1 : Nat) : Int) from rfl, bits_and_u32_nat _ _ h1 (by omega)]
  rw [Nat.testBit_eq_decide_div_mod_eq, Nat.and_one_is_mod, Bool.eq_iff_iff]
  simp only [beq_iff_eq, decide_eq_true_eq]
  omega
/-- two slices that do not lie in one block -/
def Apart (v v' : Value) : Prop := ∀ k, v.ownBlock = some k → v'.ownBlock = some k → False
theorem Apart.ne {v v' : Value} (h : Apart v v') : v'.ownBlock = none ∨ v'.ownBlock ≠ v.ownBlock := by
  cases hv : v'.ownBlock with
  | none => exact Or.inl rfl
  | some k => exact Or.inr fun e => h k e.symm hv
theorem Apart.symm {v v' : Value} (h : Apart v v') : Apart v' v := fun k a b => h k b a
theorem OwnInts.drew {B : Nat} {w : World} {v : Value} {xs : List Int} (h : OwnInts B w v xs) : OwnInts B w.drew v xs := h
theorem OwnInts.setCell {B b i : Nat} {w : World} {v u : Value} {xs : List Int} (h : OwnInts B w v xs) (hb : b < B) : OwnInts B (w.setCell ⟨b, i, none⟩ u) v xs :=
  h.kept (grown_setCell w ⟨b, i, none⟩ u) (by
    cases hv : v.ownBlock with
    | none => exact Or.inl rfl
    | some k => right; intro e; have := (h.1.lt k hv).1; simp at e; omega)
def permL (known : Bool) (m : Nat) : List Int := if known then downTo m else []
theorem OwnLots.drew {C : Nat} {w : World} {v : Value} {ls : List Lot} (h : OwnLots C w v ls) : OwnLots C w.drew v ls := h
theorem OwnLots.alloc {C : Nat} {w : World} {v : Value} {ls : List Lot} (h : OwnLots C w v ls) (hC : C ≤ w.heap.size) (o : Obj) : OwnLots C (w.alloc o) v ls := h.below (box_below' w o) hC
theorem OwnLots.form' {C : Nat} {w : World} {v : Value} {ls : List Lot} (h : OwnLots C w v ls) : ∃ a n c, v = .slice a n c := by
  obtain ⟨a, c, e⟩ := h.form
  exact ⟨a, _, c, e⟩
theorem OwnLots.rows {C : Nat} {w : World} {v : Value} {ls : List Lot} (h : OwnLots C w v ls) : ∀ k, v.ownBlock = some k → C ≤ k := by
  obtain ⟨vals, h1, _⟩ := h
  exact fun k hk => (h1.lt k hk).1
/-- what holds at the head of PromiseMore's first loop -/
def MoreRel (w4 : World) (ends : List Int) (q : Nat) (known : Bool) (vi : Value) (wr : World) : Prop :=
  ∃ (k : Nat) (vx vp : Value), k ≤ ends.length ∧ k ≤ 32 ∧ vi = .int .i64 k ∧ CellsN wr w4.heap.size #[vx, .bool known, vp] ∧ OwnInts (w4.heap.size + 1) wr vx (pickTo ends q k) ∧
    OwnInts (w4.heap.size + 1) wr vp (permL known (pickTo ends q k).length) ∧ Apart vx vp ∧ Below w4.heap.size w4 wr
theorem permL_len_le (known : Bool) (ends : List Int) (q k : Nat) : (permL known (pickTo ends q k).length).length ≤ k := by
  have := pickTo_len ends q k
  unfold permL
  split
  · rw [downTo_len]; exact this
  · simp

set_option maxHeartbeats 8000000 in
set_option maxRecDepth 100000 in
/-- PromiseMore -/
theorem promiseMore_any (B : Nat) (w : World) (vs vl : Value) (f : Flow) (q : Nat) (known : Bool) (s : Int) (hf : IsFlow B w vs vl f) (hB : B ≤ w.heap.size) (hs : I64 s) (hq : q < 4294967296) :
    Calls Try.prog 7 #[.agg #[vs, vl], .int .u32 q, .bool known, .int .i64 s] w fun e w' => e = .returned (.bool true) ∧ Below w.heap.size w w' := by
  have HF := Lib.hid hf
  obtain ⟨rfl, ⟨hs1, hs2⟩, hl⟩ := hf
  obtain ⟨b, off, cap, ⟨a, rfl, hcap, hmax, ha⟩, hlen, hc⟩ := hl
  clear hc ha
  go_enter Try.func7, Try.ntmps7
  go_wp2_with fail
  refine (sane31_any _).mono ?_
  rintro e w1 ⟨rfl, hb1⟩
  have HX1 := Lib.hid ((Box.new w #[.int .i64 f.senders, .slice a f.lots.length cap] 24).ext hb1)
  have HW1 : Hid (Below w.heap.size w w1) := Lib.hid ((box_below (Nat.le_refl _) _).trans (hb1.mono (by simp)))
  obtain ⟨z1, r1⟩ := HX1.out
  clear hb1
  go_wp2_with fail
  refine (few31_any B w1 _ _ f (HF.out.below HW1.out hB) (by have := HW1.out.size; omega)).mono ?_
  rintro e w2 ⟨rfl, hb2⟩
  have HX2 := Lib.hid (HX1.out.ext hb2)
  have HW2 : Hid (Below w.heap.size w w2) := Lib.hid (HW1.out.trans (hb2.mono HW1.out.size))
  clear hb2 z1 r1
  cases hfew : few26 f
  · clear hfew
    go_wp2
    go_ret
    exact ⟨rfl, HW2.out⟩
  · have HFEW := Lib.hid hfew
    clear hfew
    obtain ⟨z2, r2⟩ := HX2.out
    by_cases hl11 : f.lots.length > 11
    · have hl11' : decide ((11 : Int) < (f.lots.length : Int)) = true := decide_eq_true (by omega)
      go_wp2
      go_ret
      exact ⟨rfl, HW2.out⟩
    · have hl11' : decide ((11 : Int) < (f.lots.length : Int)) = false := decide_eq_false (by omega)
      go_wp2_with fail
      refine (crowd_any B w2 _ _ f s (HF.out.below HW2.out hB) (by have := HW2.out.size; omega) hs).mono ?_
      rintro e w3 ⟨rfl, hb3⟩
      have HX3 := Lib.hid (HX2.out.ext hb3)
      have HW3 : Hid (Below w.heap.size w w3) := Lib.hid (HW2.out.trans (hb3.mono HW2.out.size))
      clear hb3 z2 r2
      obtain ⟨z3, r3⟩ := HX3.out
      go_wp2_with fail
      refine (ends25_any B w3 _ _ f (HF.out.below HW3.out hB) (by have := HW3.out.size; omega)).mono ?_
      rintro e w4 ⟨v4, rfl, ho4, hb4⟩
      have HX4 := Lib.hid (HX3.out.ext hb4)
      have HW4 : Hid (Below w.heap.size w w4) := Lib.hid (HW3.out.trans (hb4.mono HW3.out.size))
      clear hb4 z3 r3
      obtain ⟨z4, r4⟩ := HX4.out
      by_cases h0 : reachE f s = 0
      · have hck := reachE_ok h0
        have HR0 := Lib.hid h0
        have h0' : (reachE f s != 0) = false := by simpa using h0
        have h1' : (checkE f != 0) = false := by simpa using hck.1
        have HI4 := Lib.hid (by have := ho4.isInts; rw [show endsR f = endsL f by unfold endsR; rw [if_pos hck.1]] at this; exact this : IsInts w4.heap.size w4 v4 (endsL f))
        clear h0 hck ho4
        obtain ⟨b4, off4, cap4, ⟨a4, rfl, hcap4, hmax4, ha4⟩, hlen4, hz4, hc4⟩ := HI4.out
        have HC4 := Lib.hid hc4
        have HZ4 := Lib.hid hz4
        clear hc4 hz4
        have HBX := Lib.hid (CellsN.new w4 #[.slice none 0 0, .bool known, .slice none 0 0] 45)
        obtain ⟨ends, hends⟩ : ∃ l, endsL f = l := ⟨_, rfl⟩
        have HEN := Lib.hid hends
        rw [hends] at HC4 HZ4 hcap4 ha4 hlen4 ⊢
        clear HI4 hends
        go_wp2
        go_loopw [14] (fun vi wr => MoreRel w4 ends q known vi wr) (fun vi _ => 32 - (intOf vi).toNat)
        case atStart => exact ⟨0, .slice none 0 0, .slice none 0 0, by omega, by omega, rfl, HBX.out, OwnInts.nil _ _, by cases known <;> exact OwnInts.nil _ _, fun k h => by simp [Value.ownBlock] at h, box_below' _ _⟩
        case round =>
          obtain ⟨k, vx, vp, hk, hk32, rfl, hcx, hox, hop, hap, hbr⟩ := hrel
          have HCX := Lib.hid hcx
          have HOX := Lib.hid hox
          have HOP := Lib.hid hop
          have HAP := Lib.hid hap
          have HBR := Lib.hid hbr
          have hbx := hcx.lt
          clear hcx hox hop hap hbr
          by_cases hgo : k < ends.length ∧ k < 32
          · obtain ⟨hlt, h32⟩ := hgo
            obtain rfl : a4 = some ⟨b4, off4, none⟩ := by rcases ha4 with ha | ha; exact ha; omega
            have hlt' : decide ((k : Int) < (ends.length : Int)) = true := decide_eq_true (by omega)
            have h32' : decide ((k : Int) < 32) = true := decide_eq_true (by omega)
            have HA := Lib.hid (and_one32 q hq k)
            have HPL := Lib.hid (pickTo_len ends q k)
            have hb4 : b4 < wr.heap.size := by have := (HC4.out k hlt).1; have := HBR.out.size; omega
            have hcell := (HBR.out.cell (p := ⟨b4, off4 + k, none⟩) (HC4.out k hlt).1).trans (HC4.out k hlt).2
            cases hbit : q.testBit k
            · have HS : Hid (pickTo ends q (k + 1) = pickTo ends q k) := Lib.hid (by simp [pickTo, hbit])
              have hA := HA.out
              rw [hbit] at hA
              clear hbit
              go_wp2
              go_roundw
              case rel => exact ⟨k + 1, vx, vp, by omega, by omega, by go_num, HCX.out, by rw [HS.out]; exact HOX.out, by rw [HS.out]; exact HOP.out, HAP.out, HBR.out⟩
              case measure => simp [intOf]; omega
            · have HS : Hid (pickTo ends q (k + 1) = pickTo ends q k ++ [nth ends k]) := Lib.hid (by simp [pickTo, hbit])
              have hA := HA.out
              rw [hbit] at hA
              have cx0 := HCX.out.cell 0
              have cx2 := HCX.out.cell 2
              have fx0 := HCX.out.free 0
              simp only [List.size_toArray, List.length_cons, List.length_nil, List.getElem?_toArray, List.getElem?_cons_zero] at cx0
              simp at cx2
              have hk0 : (0 : Int) ≤ (k : Int) := Int.natCast_nonneg _
              have hk1 : (k : Int) < (ends.length : Int) := by omega
              have nx : some w4.heap.size ≠ vx.ownBlock := fun e => by have := (HOX.out.1.lt _ e.symm).1; omega
              have n4 : some b4 ≠ vx.ownBlock := fun e => by have := (HOX.out.1.lt _ e.symm).1; have := (HC4.out k hlt).1; omega
              have hzk : I64 (nth ends k) := HZ4.out _ (nth_mem hlt)
              have HZK := Lib.hid hzk
              have NX := Lib.hid nx
              have N4 := Lib.hid n4
              have HK1 : Hid ((wr.alloc (.cells #[.int .i64 (nth ends k)] 3)).drew.cell? ⟨w4.heap.size, 0, none⟩ = some vx ∧ (wr.alloc (.cells #[.int .i64 (nth ends k)] 3)).drew.cell? ⟨b4, off4 + k, none⟩ = some (.int .i64 (nth ends k)) ∧
                  (wr.alloc (.cells #[.int .i64 (nth ends k)] 3)).drew.frozen? ⟨w4.heap.size, 0, none⟩ = false) :=
                Lib.hid ⟨((box_below' wr _).cell (p := ⟨w4.heap.size, 0, none⟩) hbx).trans cx0, ((box_below' wr _).cell (p := ⟨b4, off4 + k, none⟩) hb4).trans hcell, ((box_below' wr _).frozen (p := ⟨w4.heap.size, 0, none⟩) hbx).trans fx0⟩
              clear hbit hzk nx n4
              go_wp2_with fail
              obtain ⟨k1, k2, k3⟩ := HK1.out
              go_region_law (
                (refine step_append_ints (by rfl) (.tmp 69) (.tmp 74) (by rfl) (v := vx) (vx := .slice (some ⟨wr.heap.size, 0, none⟩) 1 1) [nth ends k] (by rfl) ((HOX.out.alloc _).drew) (by rfl) (src_one (World.cell?_alloc_at _ _ _ _ rfl) rfl) (by simp; exact HZK.out) (by have := HPL.out; simp; omega) (by simp; omega) ?_
                 intro v5 w5 ho5 hgrow hat
                 obtain ⟨a5, n5, c5, rfl⟩ := ho5.form'
                 have HO5 := Lib.hid ho5
                 have HG5 := Lib.hid hgrow
                 have HAT := Lib.hid hat
                 have q1 : w5.cell? ⟨w4.heap.size, 0, none⟩ = some vx := (HG5.out.cell_far ⟨w4.heap.size, 0, none⟩ (by simp; omega) NX.out).trans k1
                 have q2 : w5.frozen? ⟨w4.heap.size, 0, none⟩ = false := (HG5.out.frozen_far ⟨w4.heap.size, 0, none⟩ (by simp; omega) NX.out).trans k3
                 clear ho5 hgrow hat))
              all_goals
                obtain ⟨W1, hW1⟩ : ∃ W1, w5.setCell ⟨w4.heap.size, 0, none⟩ (.slice a5 n5 c5) = W1 := ⟨_, rfl⟩
                have HC1 : Hid (CellsN W1 w4.heap.size #[.slice a5 n5 c5, .bool known, vp]) := Lib.hid (by
                  rw [← hW1]
                  have h : CellsN (wr.alloc (.cells #[.int .i64 (nth ends k)] 3)).drew w4.heap.size #[vx, .bool known, vp] := HCX.out.alloc _
                  have := (h.grown HG5.out NX.out).set 0 (.slice a5 n5 c5)
                  simpa using this)
                have HO1 : Hid (OwnInts (w4.heap.size + 1) W1 (.slice a5 n5 c5) (pickTo ends q (k + 1))) := Lib.hid (by rw [← hW1, HS.out]; exact HO5.out.setCell (by omega))
                have HP1 : Hid (OwnInts (w4.heap.size + 1) W1 vp (permL known (pickTo ends q k).length)) := Lib.hid (by rw [← hW1]; exact (((HOP.out.alloc _).drew).kept HG5.out HAP.out.ne).setCell (by omega))
                have HA1 : Hid (Apart (.slice a5 n5 c5) vp) := Lib.hid (by
                  intro j e1 e2
                  have h1 := (HOP.out.1.lt j e2).2
                  rcases HAT.out with h | h
                  · exact HAP.out j (h ▸ e1) e2
                  · rw [h] at e1
                    simp at e1
                    omega)
                have HB1 : Hid (Below w4.heap.size w4 W1) := Lib.hid (by
                  rw [← hW1]
                  have h : Below w4.heap.size w4 (wr.alloc (.cells #[.int .i64 (nth ends k)] 3)).drew := (HBR.out.alloc (by omega) _).drew
                  exact (h.grown HG5.out (by simp; omega) (fun j hj => by have := (HOX.out.1.lt j hj).1; omega)).setCell (Nat.le_refl _) _)
                rw [hW1]
                clear q1 q2 k1 k2 k3 cx0 cx2 fx0 hW1
                cases known
                · go_wp2
                  go_roundw
                  case rel => exact ⟨k + 1, _, vp, by omega, by omega, by go_num, HC1.out, HO1.out, by unfold permL at *; exact HP1.out, HA1.out, HB1.out⟩
                  case measure => simp [intOf]; omega
                · obtain ⟨m, hm⟩ : ∃ m, (pickTo ends q k).length = m := ⟨_, rfl⟩
                  have hm32 : m ≤ 32 := by have := HPL.out; omega
                  have HSL : Hid ((pickTo ends q (k + 1)).length = m + 1) := Lib.hid (by rw [HS.out, List.length_append, hm]; rfl)
                  have HP2 : Hid (OwnInts (w4.heap.size + 1) W1 vp (downTo m)) := Lib.hid (by have := HP1.out; rw [hm] at this; exact this)
                  have HDL := Lib.hid (downTo_len m)
                  obtain ⟨ap, cp, hvp, _⟩ := HP2.out.form
                  rw [HDL.out] at hvp
                  subst hvp
                  have d2 := HC1.out.cell 2
                  have e2 := HC1.out.free 2
                  simp at d2
                  have hbx1 := HC1.out.lt
                  have HSR : Hid (Src (W1.alloc (.cells #[.int .i64 (m : Int)] 3)) 1 (.slice ap m cp) (downTo m).length ((downTo m).map (Value.int .i64))) := Lib.hid (HP2.out.alloc _).isInts.src
                  have HZ : Hid (∀ y ∈ downTo m, I64 y) := Lib.hid HP2.out.2.2
                  clear hm
                  go_wp2_with (at_builtin; refine append_intsA rfl (.tmp 81) (.tmp 83) rfl (v := .slice (some ⟨W1.heap.size, 0, none⟩) 1 1) (xs := [(m : Int)]) (B := w4.heap.size + 1) (downTo m) rfl (OwnInts.one (by unfold I64; omega) rfl (by omega)) rfl HSR.out HZ.out (by rw [HDL.out]; simp; omega) (by simp; omega) ?_; intro v6 w6 ho6 hg6 hat6; obtain ⟨a6, n6, c6, rfl⟩ := ho6.form'; have HO6 := Lib.hid ho6; have HG6 := Lib.hid hg6; have HAT6 := Lib.hid hat6; have q3 : w6.cell? ⟨w4.heap.size, 2, none⟩ = some (.slice ap m cp) := ((HG6.out.cell_far ⟨w4.heap.size, 2, none⟩ (by simp; omega) (by simp [Value.ownBlock]; omega)).trans ((box_below' W1 _).cell (p := ⟨w4.heap.size, 2, none⟩) hbx1)).trans d2; have q4 : w6.frozen? ⟨w4.heap.size, 2, none⟩ = false := ((HG6.out.frozen_far ⟨w4.heap.size, 2, none⟩ (by simp; omega) (by simp [Value.ownBlock]; omega)).trans ((box_below' W1 _).frozen (p := ⟨w4.heap.size, 2, none⟩) hbx1)).trans e2; clear ho6 hg6 hat6)
                  go_roundw
                  case rel =>
                    refine ⟨k + 1, .slice a5 n5 c5, .slice a6 n6 c6, by omega, by omega, by go_num, ?_, ?_, ?_, ?_, ?_⟩
                    · have h := ((HC1.out.alloc (.cells #[.int .i64 (m : Int)] 3)).grown HG6.out (by simp [Value.ownBlock]; omega)).set 2 (.slice a6 n6 c6)
                      simpa using h
                    · exact ((HO1.out.alloc (.cells #[.int .i64 (m : Int)] 3)).kept HG6.out (by
                        cases hv : Value.ownBlock (.slice a5 n5 c5) with
                        | none => exact Or.inl rfl
                        | some j => right; have := (HO1.out.1.lt j hv).2; simp [Value.ownBlock]; omega)).setCell (by omega)
                    · rw [HSL.out]
                      exact HO6.out.setCell (by omega)
                    · intro j g1 g2
                      have h1 := (HO1.out.1.lt j g1).2
                      rcases HAT6.out with h | h
                      · rw [h] at g2; simp [Value.ownBlock] at g2; omega
                      · rw [h] at g2; simp at g2; omega
                    · exact ((HB1.out.alloc (by omega) _).grown HG6.out (by simp; omega) (fun j hj => by simp [Value.ownBlock] at hj; omega)).setCell (Nat.le_refl _) _
                  case measure => simp [intOf]; omega
          · obtain ⟨wA, rfl⟩ : ∃ W, W = wr := ⟨_, rfl⟩
            obtain ⟨X, hX⟩ : ∃ X, pickTo ends q k = X := ⟨_, rfl⟩
            have HXD := Lib.hid hX
            have HXR := Lib.hid (HX4.out.below HBR.out z4)
            have HWR : Hid (Below w.heap.size w wA) := Lib.hid (HW4.out.trans (HBR.out.mono HW4.out.size))
            rw [hX] at HOX HOP
            have hzr : w.heap.size < wA.heap.size := by have := HBR.out.size; omega
            obtain ⟨ax, cx, rfl, _⟩ := HOX.out.form
            have cx0 := HCX.out.cell 0
            have cx1 := HCX.out.cell 1
            have cx2 := HCX.out.cell 2
            simp at cx0 cx1 cx2
            obtain ⟨zr, rr⟩ := HXR.out
            have HK32 := Lib.hid (⟨hk, hk32⟩ : k ≤ ends.length ∧ k ≤ 32)
            have hexit : ends.length ≤ k ∨ (k < ends.length ∧ 32 ≤ k) := by omega
            have HIX : Hid (∀ W, Below wA.heap.size wA W → IsInts wA.heap.size W (.slice ax X.length cx) X) := Lib.hid fun W hW => HOX.out.isInts.below hW (Nat.le_refl _)
            have HIP : Hid (∀ W, Below wA.heap.size wA W → IsInts wA.heap.size W vp (permL known X.length)) := Lib.hid fun W hW => HOP.out.isInts.below hW (Nat.le_refl _)
            have HSF : Hid (∀ W, Below wA.heap.size wA W → SrcLots wA.heap.size W (.slice a f.lots.length cap) f.lots) := Lib.hid fun W hW => (HF.out.2.2.below (HWR.out.trans (hW.mono (by omega))) hB).src (by omega)
            have HKP : Hid (∀ W, Below wA.heap.size wA W → W.cell? ⟨w.heap.size, 0, none⟩ = some (.int .i64 f.senders) ∧ W.cell? ⟨w.heap.size, 1, none⟩ = some (.slice a f.lots.length cap) ∧
                W.cell? ⟨w4.heap.size, 0, none⟩ = some (.slice ax X.length cx) ∧ W.cell? ⟨w4.heap.size, 1, none⟩ = some (.bool known) ∧ W.cell? ⟨w4.heap.size, 2, none⟩ = some vp) := Lib.hid fun W hW =>
              ⟨(hW.cell (p := ⟨w.heap.size, 0, none⟩) hzr).trans (by rw [rr]; rfl), (hW.cell (p := ⟨w.heap.size, 1, none⟩) hzr).trans (by rw [rr]; rfl),
                (hW.cell (p := ⟨w4.heap.size, 0, none⟩) hbx).trans cx0, (hW.cell (p := ⟨w4.heap.size, 1, none⟩) hbx).trans cx1, (hW.cell (p := ⟨w4.heap.size, 2, none⟩) hbx).trans cx2⟩
            clear hX hgo
            by_cases hX0 : X.length = 0
            · have hX0' : ((X.length : Int) == 0) = true := by simp [hX0]
              clear hX0
              rcases hexit with hx1 | ⟨hx1, hx2⟩
              all_goals
                go_wp2
                go_ret
                exact ⟨rfl, HWR.out⟩
            · have hX0' : ((X.length : Int) == 0) = false := by simp; intro e; exact hX0 (by simp [e])
              have hXne : pickTo (endsL f) q k ≠ [] := by rw [HEN.out, HXD.out]; intro e; exact hX0 (by rw [e]; rfl)
              have hkl : k ≤ (endsL f).length := by rw [HEN.out]; exact hk
              obtain ⟨d, hd⟩ : ∃ d, moreLot (endsL f) q known k = d := ⟨_, rfl⟩
              have HD : Hid (d = ⟨X, known, permL known X.length⟩) := Lib.hid (by rw [← hd, HEN.out]; unfold moreLot permL; rw [HXD.out])
              have HLAW := Lib.hid (more_law (known := known) (b := q) HR0.out HFEW.out (by omega) hkl hk32 hXne)
              have HME := Lib.hid (more_reach (known := known) (b := q) HR0.out HFEW.out (by omega) hkl hk32 hXne)
              rw [hd] at HLAW HME
              rw [HEN.out, HXD.out] at HLAW
              clear hX0 hXne hkl hd
              have HIL : Hid (∀ W, Below wA.heap.size wA W → IsLot wA.heap.size W (.slice ax X.length cx) (.bool known) vp d) := Lib.hid fun W hW => by
                rw [HD.out]
                exact ⟨HIX.out W hW, rfl, HIP.out W hW⟩
              have HBL2 : Hid (Below wA.heap.size wA ((wA.alloc (.cells #[] 45)).alloc (.cells #[.slice ax X.length cx, .bool known, vp] 45)).drew) := Lib.hid (((Below.refl _ _).alloc (Nat.le_refl _) _).alloc (by simp) _).drew
              have HBL3 : Hid (Below wA.heap.size wA ((wA.alloc (.cells #[.slice ax X.length cx, .bool known, vp] 45)).alloc (.cells #[] 45)).drew) := Lib.hid (((Below.refl _ _).alloc (Nat.le_refl _) _).alloc (by simp) _).drew
              have HOW2 : Hid (OwnLots wA.heap.size ((wA.alloc (.cells #[] 45)).alloc (.cells #[.slice ax X.length cx, .bool known, vp] 45)).drew (.slice (some ⟨wA.heap.size, 0, none⟩) 0 0) []) := Lib.hid ((OwnLots.made (w := wA) rfl (Nat.le_refl _)).alloc (by simp) _).drew
              have HOW3 : Hid (OwnLots wA.heap.size ((wA.alloc (.cells #[.slice ax X.length cx, .bool known, vp] 45)).alloc (.cells #[] 45)).drew (.slice (some ⟨wA.heap.size + 1, 0, none⟩) 0 0) []) := Lib.hid (OwnLots.made (C := wA.heap.size) (w := wA.alloc (.cells #[.slice ax X.length cx, .bool known, vp] 45)) (n := wA.heap.size + 1) (by simp) (by simp)).drew
              have HCN2 : Hid (CellsN ((wA.alloc (.cells #[] 45)).alloc (.cells #[.slice ax X.length cx, .bool known, vp] 45)).drew (wA.heap.size + 1) #[.slice ax X.length cx, .bool known, vp]) := Lib.hid (by have h := CellsN.new (wA.alloc (.cells #[] 45)) #[.slice ax X.length cx, .bool known, vp] 45; rw [World.size_alloc] at h; exact h)
              have HCN3 : Hid (CellsN ((wA.alloc (.cells #[.slice ax X.length cx, .bool known, vp] 45)).alloc (.cells #[] 45)).drew wA.heap.size #[.slice ax X.length cx, .bool known, vp]) := Lib.hid ((CellsN.new wA #[.slice ax X.length cx, .bool known, vp] 45).alloc _)
              rcases hexit with hx1 | ⟨hx1, hx2⟩
              all_goals
                go_wp2_with fail
                go_region_held_law (fun W => W.cell? ⟨w.heap.size, 0, none⟩ = some (.int .i64 f.senders) ∧ W.cell? ⟨w.heap.size, 1, none⟩ = some (.slice a f.lots.length cap) ∧
                    W.cell? ⟨w4.heap.size, 0, none⟩ = some (.slice ax X.length cx) ∧ W.cell? ⟨w4.heap.size, 1, none⟩ = some (.bool known) ∧ W.cell? ⟨w4.heap.size, 2, none⟩ = some vp)
                  (first
                    | exact HKP.out _ (Below.refl _ _).drew
                    | exact HKP.out _ ((Below.refl _ _).alloc (Nat.le_refl _) _).drew
                    | exact HKP.out _ (((Below.refl _ _).alloc (Nat.le_refl _) _).alloc (by simp) _).drew
                    | exact HKP.out _ HB7.out
                    | exact HKP.out _ HB6.out
                    | exact HKP.out _ HB5.out
                    | exact HKP.out _ (HB5.out.alloc HB5.out.size _))
                  (first
                    | (refine step_append_lots (by rfl) (.tmp 93) (.tmp 95) (by rfl) (C := wA.heap.size) (v := .slice (some ⟨wA.heap.size, 0, none⟩) 0 0) (vx := .slice a f.lots.length cap) (xs := []) (ys := f.lots) (by rfl) ((OwnLots.made (w := wA) rfl (Nat.le_refl _)).drew) (by rfl) (HSF.out _ (((Below.refl _ _).alloc (Nat.le_refl _) _).drew)) (by simp; omega) (by simp; try omega) ?_
                       intro v5 w5 ho5 hg5 hat5
                       have HO5 := Lib.hid ho5
                       have HB5 : Hid (Below wA.heap.size wA w5) := Lib.hid ((((Below.refl _ _).alloc (Nat.le_refl _) _).drew).grown hg5 (by simp; try omega) (fun j hj => by simp [Value.ownBlock] at hj; omega))
                       obtain ⟨a5, n5, c5, rfl⟩ := ho5.form'
                       clear ho5 hg5 hat5)
                    | (refine step_append_lots (by rfl) (.tmp 93) (.tmp 95) (by rfl) (C := wA.heap.size) (v := .slice (some ⟨wA.heap.size, 0, none⟩) 0 0) (vx := .slice a f.lots.length cap) (xs := []) (ys := f.lots) (by rfl) HOW2.out (by rfl) (HSF.out _ HBL2.out) (by simp; omega) HBL2.out.size ?_
                       intro v5 w5 ho5 hg5 hat5
                       have HO5 := Lib.hid ho5
                       have HB5 : Hid (Below wA.heap.size wA w5) := Lib.hid (HBL2.out.grown hg5 HBL2.out.size (fun j hj => by simp [Value.ownBlock] at hj; omega))
                       have HXB := Lib.hid (HCN2.out.grown hg5 (by simp [Value.ownBlock]))
                       obtain ⟨a5, n5, c5, rfl⟩ := ho5.form'
                       clear ho5 hg5 hat5)
                    | (refine step_append_lots (by rfl) (.tmp 93) (.tmp 95) (by rfl) (C := wA.heap.size) (v := .slice (some ⟨wA.heap.size + 1, 0, none⟩) 0 0) (vx := .slice a f.lots.length cap) (xs := []) (ys := f.lots) (by rfl) HOW3.out (by rfl) (HSF.out _ HBL3.out) (by simp; omega) HBL3.out.size ?_
                       intro v5 w5 ho5 hg5 hat5
                       have HO5 := Lib.hid ho5
                       have HB5 : Hid (Below wA.heap.size wA w5) := Lib.hid (HBL3.out.grown hg5 HBL3.out.size (fun j hj => by simp [Value.ownBlock] at hj; omega))
                       have HXB := Lib.hid (HCN3.out.grown hg5 (by simp [Value.ownBlock]))
                       obtain ⟨a5, n5, c5, rfl⟩ := ho5.form'
                       clear ho5 hg5 hat5)
                    | (refine step_append_lots (by rfl) (.tmp 96) (.tmp 98) (by rfl) (C := wA.heap.size) (v := .slice a5 n5 c5) (vx := .slice (some ⟨wA.heap.size + 1, 0, none⟩) 1 1) (xs := [] ++ f.lots) (ys := [d]) (by rfl) (HO5.out) (by rfl) (srcLots_one (HXB.out.cell 0) (HXB.out.cell 1) (HXB.out.cell 2) (HIL.out _ HB5.out)) (by simp; omega) (by have := HB5.out.size; simp; try omega) ?_
                       intro v6 w6 ho6 hg6 hat6
                       have HB6 : Hid (Below wA.heap.size wA w6) := Lib.hid ((HB5.out).grown hg6 (by have := HB5.out.size; simp; try omega) (HO5.out.rows))
                       have HL6 : Hid (IsFlow w6.heap.size w6 (.int .i64 f.senders) v6 (extF f d)) := Lib.hid ⟨rfl, HF.out.2.1, ho6.isLots HB6.out.size⟩
                       obtain ⟨a6, n6, c6, rfl⟩ := ho6.form'
                       clear ho6 hg6 hat6)
                    | (refine step_append_lots (by rfl) (.tmp 96) (.tmp 98) (by rfl) (C := wA.heap.size) (v := .slice a5 n5 c5) (vx := .slice (some ⟨wA.heap.size, 0, none⟩) 1 1) (xs := [] ++ f.lots) (ys := [d]) (by rfl) (HO5.out) (by rfl) (srcLots_one (HXB.out.cell 0) (HXB.out.cell 1) (HXB.out.cell 2) (HIL.out _ HB5.out)) (by simp; omega) (by have := HB5.out.size; simp; try omega) ?_
                       intro v6 w6 ho6 hg6 hat6
                       have HB6 : Hid (Below wA.heap.size wA w6) := Lib.hid ((HB5.out).grown hg6 (by have := HB5.out.size; simp; try omega) (HO5.out.rows))
                       have HL6 : Hid (IsFlow w6.heap.size w6 (.int .i64 f.senders) v6 (extF f d)) := Lib.hid ⟨rfl, HF.out.2.1, ho6.isLots HB6.out.size⟩
                       obtain ⟨a6, n6, c6, rfl⟩ := ho6.form'
                       clear ho6 hg6 hat6)
                    | (refine step_append_lots (by rfl) (.tmp 96) (.tmp 98) (by rfl) (C := wA.heap.size) (v := .slice a5 n5 c5) (vx := .slice (some ⟨w5.heap.size, 0, none⟩) 1 1) (xs := [] ++ f.lots) (ys := [d]) (by rfl) (HO5.out.alloc HB5.out.size (.cells #[.slice ax X.length cx, .bool known, vp] 45)) (by rfl) (srcLots_one ((CellsN.new w5 #[.slice ax X.length cx, .bool known, vp] 45).cell 0) ((CellsN.new w5 #[.slice ax X.length cx, .bool known, vp] 45).cell 1) ((CellsN.new w5 #[.slice ax X.length cx, .bool known, vp] 45).cell 2) (HIL.out _ (HB5.out.alloc HB5.out.size _))) (by simp; omega) (by have := HB5.out.size; simp; try omega) ?_
                       intro v6 w6 ho6 hg6 hat6
                       have HB6 : Hid (Below wA.heap.size wA w6) := Lib.hid ((HB5.out.alloc HB5.out.size (.cells #[.slice ax X.length cx, .bool known, vp] 45)).grown hg6 (by have := HB5.out.size; simp; try omega) (HO5.out.rows))
                       have HL6 : Hid (IsFlow w6.heap.size w6 (.int .i64 f.senders) v6 (extF f d)) := Lib.hid ⟨rfl, HF.out.2.1, ho6.isLots HB6.out.size⟩
                       obtain ⟨a6, n6, c6, rfl⟩ := ho6.form'
                       clear ho6 hg6 hat6)
                    | (go_simp
                       go_at_call 13
                       with_reducible refine (crowd_any w6.heap.size w6 _ _ (extF f d) s HL6.out (Nat.le_refl _) hs).mono ?_
                       rintro e w7 ⟨rfl, hb7⟩
                       rw [HME.out]
                       have HB7 : Hid (Below wA.heap.size wA w7) := Lib.hid (HB6.out.trans (hb7.mono HB6.out.size))
                       clear hb7))
                all_goals
                  obtain ⟨LA, hLA⟩ : ∃ n, (reachR (extF f d) s).length = n := ⟨_, rfl⟩
                  obtain ⟨LB, hLB⟩ : ∃ n, (reachR f s).length = n := ⟨_, rfl⟩
                  have HW7 : Hid (Below w.heap.size w w7) := Lib.hid (HWR.out.trans (HB7.out.mono HWR.out.size))
                  have HX7 := Lib.hid (HXR.out.below HB7.out hzr)
                  have hc7 := (HB7.out.cell (p := ⟨w4.heap.size, 0, none⟩) hbx).trans cx0
                  obtain ⟨own, hown⟩ : ∃ l, reachR f s = l := ⟨_, rfl⟩
                  have HLW := HLAW
                  rw [hLA, hown] at HLW
                  have HCR := Lib.hid (rends_any B w7 _ _ f s (HF.out.below HW7.out hB) (by have := HW7.out.size; omega) hs)
                  rw [hown, HR0.out] at HCR
                  have HLB : Hid (own.length = LB) := Lib.hid (by rw [← hown]; exact hLB)
                  rw [hLA, hLB]
                  clear hLA hLB hown HLAW
                  obtain ⟨z7, r7⟩ := HX7.out
                  go_wp2_with fail
                  refine HCR.out.mono ?_
                  rintro e w8 ⟨v8, rfl, ho8, hb8⟩
                  have HI8 := Lib.hid ho8.isInts
                  have HW8 : Hid (Below w.heap.size w w8) := Lib.hid (HW7.out.trans (hb8.mono HW7.out.size))
                  have HB8 : Hid (Below wA.heap.size wA w8) := Lib.hid (HB7.out.trans (hb8.mono HB7.out.size))
                  have hc8 := (HB8.out.cell (p := ⟨w4.heap.size, 0, none⟩) hbx).trans cx0
                  clear hb8 ho8 z7 r7
                  obtain ⟨b8, off8, cap8, ⟨a8, rfl, hcap8, hmax8, ha8⟩, hlen8, hz8, hcc8⟩ := HI8.out
                  have HC8 := Lib.hid hcc8
                  clear hcc8 hz8
                  go_wp2
                  go_loopw [19, 20] (fun vn vi wr => ∃ j : Nat, j ≤ own.length ∧ vi = .int .i64 j ∧ vn = .bool (inTo X own j) ∧ Drew w8 wr) (fun _ vi _ => own.length - (intOf vi).toNat)
                  case atStart => exact ⟨0, by omega, rfl, rfl, Drew.refl _⟩
                  case round =>
                    obtain ⟨j, hj, rfl, rfl, hdq⟩ := hrel
                    have HDQ := Lib.hid hdq
                    clear hdq
                    by_cases hjl : j < own.length
                    · obtain rfl : a8 = some ⟨b8, off8, none⟩ := by rcases ha8 with ha | ha; exact ha; omega
                      have HSI : Hid (inTo X own (j + 1) = (inTo X own j || hasB X (nth own j))) := Lib.hid rfl
                      have hce := (HDQ.out.cell _).trans (HC8.out j hjl).2
                      have hcq := (HDQ.out.cell _).trans hc8
                      have HHAS : Hid (∀ m, Calls Try.prog 23 #[.slice ax X.length cx, .int .i64 (nth own j)] (wr.drewN m) fun e w' => e = .returned (.bool (hasB X (nth own j))) ∧ w' = wr.drewN m) :=
                        Lib.hid fun m => has_any wA.heap.size _ _ X (nth own j) ((HIX.out w8 HB8.out).drew (HDQ.out.drewN m))
                      cases hin : inTo X own j
                      · have HIN := Lib.hid hin
                        clear hin
                        go_wp2
                        go_quiet ((go_at_call 23; exact Calls.quiet_of_same (HHAS.out _)))
                        go_wp2
                        go_roundw
                        case rel => exact ⟨j + 1, by omega, by go_num, by rw [HSI.out, HIN.out]; rfl, HDQ.out.drewN _⟩
                        case measure => simp [intOf]; omega
                      · have HIN := Lib.hid hin
                        clear hin
                        go_wp2
                        go_quiet (fail)
                        go_wp2
                        go_roundw
                        case rel => exact ⟨j + 1, by omega, by go_num, by rw [HSI.out, HIN.out]; rfl, HDQ.out.drewN _⟩
                        case measure => simp [intOf]; omega
                    · obtain rfl : j = own.length := by omega
                      have hcq := (HDQ.out.cell _).trans hc8
                      have HWQ : Hid (Below w.heap.size w wr) := Lib.hid (HW8.out.trans (HDQ.out.below _))
                      obtain ⟨is, his⟩ : ∃ t, inTo X own own.length = t := ⟨_, rfl⟩
                      have HL1 := Lib.hid HLW.out.1
                      have HL2 := Lib.hid HLW.out.2
                      rw [HLB.out] at his
                      rw [HLB.out] at HL1 HL2 ⊢
                      rw [his] at HL1 HL2 ⊢
                      clear his
                      cases hkn : (known || !is)
                      · have h2 := HL2.out hkn
                        have g1 : decide (LB ≤ LA) = true := decide_eq_true h2.1
                        have g2 : decide (X.length ≤ LA) = true := decide_eq_true h2.2
                        have g3 : LB ≤ LA := h2.1
                        have g4 : X.length ≤ LA := h2.2
                        clear h2
                        cases known
                        · cases is
                          · simp at hkn
                          · clear hkn
                            go_wp2
                            go_ret
                            exact ⟨by simp, HWQ.out⟩
                        · simp at hkn
                      · have h2 := HL1.out hkn
                        have g1 : ((LA : Int) == (LB : Int)) = true := by simp [h2]
                        clear h2
                        cases known
                        · cases is
                          · clear hkn
                            go_wp2
                            go_ret
                            exact ⟨by simp, HWQ.out⟩
                          · simp at hkn
                        · clear hkn
                          go_wp2
                          go_ret
                          exact ⟨by simp, HWQ.out⟩
      · have h0' : (reachE f s != 0) = true := by simpa using h0
        obtain ⟨a4, n4, c4, rfl⟩ := ho4.form'
        clear h0 ho4
        go_wp2
        go_ret
        exact ⟨by simp, HW4.out⟩

end Go.Proofs.Ytndcbnnbgedgcaa
