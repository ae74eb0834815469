/- Layers RecS EW1 EW2 EW3 EA1 EW4 EW5 EW6 EA2 EW7 EW8 EA3 EW9 EA4 EW11 EW13 EA5 EW14 EW15 EW16 EW17 EW18 EX1: the walks and the plain laws under the last text, merged and cut to what it uses; nothing is assumed. -/
import Derived.Deep.CutRange
import Derived.Test.YteiaeaciaglmgaaGab
set_option linter.unusedVariables false
set_option linter.unusedSimpArgs false
namespace Go.Proofs.Yteiaeaciaglmgaa
open Go.RowKit
/-- v reads as the numbers xs, its cells lie in a block of S -/
def IsIntsS (S : Nat → Prop) (w : World) (v : Value) (xs : List Int) : Prop :=
 ∃ b off cap, SliceV v xs.length b off cap ∧ xs.length ≤ 17592186043904 ∧ (∀ x ∈ xs, I64 x) ∧
  ∀ j, j < xs.length → S b ∧ w.cell? ⟨b, off + j, none⟩ = some (.int .i64 (nth xs j))
theorem IsIntsS.keep {S : Nat → Prop} {w w' : World} {v : Value} {xs : List Int} (h : IsIntsS S w v xs) (hk : ∀ q, S q → w'.heap[q]? = w.heap[q]?) : IsIntsS S w' v xs := by
 obtain ⟨b, off, cap, h1, h2, h3, h4⟩ := h
 exact ⟨b, off, cap, h1, h2, h3, fun j hj => ⟨(h4 j hj).1, (World.cell?_of_block (a := ⟨b, off + j, none⟩) (hk b (h4 j hj).1)).trans (h4 j hj).2⟩⟩
theorem IsIntsS.ints {S : Nat → Prop} {w : World} {v : Value} {xs : List Int} {B : Nat} (h : IsIntsS S w v xs) (hS : ∀ q, S q → q < B) : IsInts B w v xs := by
 obtain ⟨b, off, cap, h1, h2, h3, h4⟩ := h
 exact ⟨b, off, cap, h1, h2, h3, fun j hj => ⟨hS b (h4 j hj).1, (h4 j hj).2⟩⟩
theorem OwnInts.intsS {B : Nat} {w : World} {v : Value} {xs : List Int} (h : OwnInts B w v xs) : IsIntsS (fun q => v.ownBlock = some q) w v xs := by
 obtain ⟨b, off, cap, h1, h2, h3, h4⟩ := h.isInts
 refine ⟨b, off, cap, h1, h2, h3, fun j hj => ⟨?_, (h4 j hj).2⟩⟩
 obtain ⟨⟨_, k1⟩, _, _⟩ := h
 obtain ⟨a, e, _, _, ha⟩ := h1
 rcases k1 with ⟨rfl, hn⟩ | ⟨g, cap', cur, rfl, rest⟩
 ·omega
 ·cases e
  rcases ha with ha | ha
  ·cases ha; rfl
  ·omega
structure RecS {D : Type} (k : Nat) (R : (Nat → Prop) → World → List Value → D → Prop) : Prop where
 len : ∀ {S w c d}, R S w c d → c.length = k
 one : ∀ {S w c d}, R S w c d → ∀ u ∈ c, u.oneCell' = true
 keep : ∀ {S w w' c d}, R S w c d → (∀ q, S q → w'.heap[q]? = w.heap[q]?) → R S w' c d
section
variable {D : Type} {k : Nat} {R : (Nat → Prop) → World → List Value → D → Prop}
/-- records of the call's own; what they lead to lies in blocks from C on, apart from the records' own -/
def OwnDeep (ty : TypeId) (k : Nat) (R : (Nat → Prop) → World → List Value → D → Prop) (L : Nat) (d0 : D) (C : Nat) (w : World) (v : Value) (xs : List D) : Prop :=
 ∃ vals : List (List Value), w.ownsRow C ty k v xs.length vals.flatten ∧ vals.length = xs.length ∧ xs.length ≤ L ∧
  ∀ j, j < xs.length → ∃ S : Nat → Prop, (∀ q, S q → C ≤ q ∧ q < w.heap.size ∧ v.ownBlock ≠ some q) ∧ R S w (vals.getD j []) (xs.getD j d0)
variable {ty : TypeId} {L C : Nat} {d0 : D} {w w' : World} {v : Value} {xs : List D}
theorem OwnDeep.nil : OwnDeep ty k R L d0 C w (.slice none 0 0) [] := ⟨[], World.ownsRow_nil _ _ _ _, rfl, by simp, fun j hj => by simp at hj⟩
theorem OwnDeep.lt (h : OwnDeep ty k R L d0 C w v xs) : ∀ q, v.ownBlock = some q → C ≤ q ∧ q < w.heap.size := by
 obtain ⟨vals, h1, _⟩ := h
 exact h1.lt
theorem OwnDeep.kept (hR : RecS k R) {row : Option Nat} (h : OwnDeep ty k R L d0 C w v xs) (hg : w.grownBy w' row) (hr : ∀ q, row = some q → q < C ∨ w.heap.size ≤ q) : OwnDeep ty k R L d0 C w' v xs := by
 have hlt := h.lt
 obtain ⟨vals, h1, h2, h3, h4⟩ := h
 refine ⟨vals, h1.kept hg ?_, h2, h3, fun j hj => ?_⟩
 ·cases hv : v.ownBlock with
  | none => exact Or.inl rfl
  | some g =>
   right
   intro he
   have := hlt g hv
   have := hr g he.symm
   omega
 ·obtain ⟨S, s1, s2⟩ := h4 j hj
  refine ⟨S, fun q hq => ⟨(s1 q hq).1, Nat.lt_of_lt_of_le (s1 q hq).2.1 hg.size, (s1 q hq).2.2⟩, hR.keep s2 fun q hq => hg.block q (s1 q hq).2.1 fun he => ?_⟩
  have := s1 q hq
  have := hr q he.symm
  omega
theorem OwnDeep.below (hR : RecS k R) (h : OwnDeep ty k R L d0 C w v xs) (hb : Below w.heap.size w w') : OwnDeep ty k R L d0 C w' v xs :=
 h.kept hR (row := none) ⟨hb.os, hb.tape, hb.output, hb.size, fun q hq _ => hb.block q hq⟩ (fun q hq => by cases hq)
theorem OwnDeep.mono {C' : Nat} (h : OwnDeep ty k R L d0 C w v xs) (hC : C' ≤ C) : OwnDeep ty k R L d0 C' w v xs := by
 obtain ⟨vals, h1, h2, h3, h4⟩ := h
 refine ⟨vals, ⟨h1.1, ?_⟩, h2, h3, fun j hj => ?_⟩
 ·rcases h1.2 with hn | ⟨g, cap, cur, hv, hb, rest⟩
  ·exact Or.inl hn
  ·exact Or.inr ⟨g, cap, cur, hv, by omega, rest⟩
 ·obtain ⟨S, s1, s2⟩ := h4 j hj
  exact ⟨S, fun q hq => ⟨by have := (s1 q hq).1; omega, (s1 q hq).2⟩, s2⟩
theorem OwnDeep.form (h : OwnDeep ty k R L d0 C w v xs) : ∃ a cap, v = .slice a xs.length cap := by
 obtain ⟨vals, h1, _⟩ := h
 rcases h1.2 with ⟨rfl, hn⟩ | ⟨g, cap, cur, rfl, rest⟩
 ·exact ⟨none, 0, by rw [hn]⟩
 ·exact ⟨_, cap, rfl⟩
theorem OwnDeep.form' (h : OwnDeep ty k R L d0 C w v xs) : ∃ a n cap, v = .slice a n cap := by
 obtain ⟨a, c, e⟩ := h.form
 exact ⟨a, _, c, e⟩
theorem OwnDeep.vals_len (hR : RecS k R) {vals : List (List Value)} (h2 : vals.length = xs.length) (h4 : ∀ j, j < xs.length → ∃ S : Nat → Prop, (∀ q, S q → C ≤ q ∧ q < w.heap.size ∧ v.ownBlock ≠ some q) ∧ R S w (vals.getD j []) (xs.getD j d0)) : ∀ c ∈ vals, c.length = k := by
 intro c hc
 obtain ⟨j, hj, rfl⟩ := List.getElem_of_mem hc
 obtain ⟨S, _, s2⟩ := h4 j (by omega)
 have := hR.len s2
 rw [List.getD_eq_getElem?_getD, List.getElem?_eq_getElem hj] at this
 exact this
/-- read by the relation by bounds -/
theorem OwnDeep.isRecs (hR : RecS k R) {R' : Nat → World → List Value → D → Prop} (hm : ∀ (S : Nat → Prop) c d, (∀ q, S q → q < w.heap.size) → R S w c d → R' w.heap.size w c d) (h : OwnDeep ty k R L d0 C w v xs) : IsRecs k R' L d0 w.heap.size w v xs := by
 obtain ⟨vals, ⟨hl, h1⟩, h2, h3, h4⟩ := h
 have hvl := OwnDeep.vals_len hR h2 h4
 rcases h1 with ⟨rfl, hn⟩ | ⟨g, cap, cur, rfl, hb, hg, hnc, hcm, hcs, htk⟩
 ·exact ⟨0, 0, 0, ⟨none, by rw [hn], by omega, by omega, Or.inr hn⟩, h3, fun j hj => by omega⟩
 ·refine ⟨g, 0, cap, ⟨some ⟨g, 0, none⟩, rfl, hnc, by unfold maxLen at hcm; omega, Or.inl rfl⟩, h3, fun j hj => ?_⟩
  obtain ⟨S, s1, s2⟩ := h4 j hj
  refine ⟨vals.getD j [], fun q u hq => ⟨(Array.getElem?_eq_some_iff.1 hg).1, ?_⟩, hm S _ _ (fun q hq => (s1 q hq).2.1) s2⟩
  have hq' : q < k := by
   have h5 := hR.len s2
   have := (List.getElem?_eq_some_iff.1 hq).1
   omega
  have hf := flat_getK hvl j q (by omega) hq'
  rw [hq] at hf
  have hlt : j * k + q < xs.length * k := by
   have : (j + 1) * k ≤ xs.length * k := Nat.mul_le_mul_right _ (by omega)
   rw [Nat.add_mul] at this
   omega
  simp only [World.cell?, hg, Nat.zero_add]
  have : (cur.toList.take (xs.length * k))[j * k + q]? = vals.flatten[j * k + q]? := by rw [htk]
  rw [List.getElem?_take, if_pos hlt, hf] at this
  simpa using this
/-- a source of records: what they lead to lies from C on, apart from block g -/
def SrcDeep (k : Nat) (R : (Nat → Prop) → World → List Value → D → Prop) (d0 : D) (C : Nat) (g : Option Nat) (w : World) (vx : Value) (ys : List D) : Prop :=
 ∃ vals : List (List Value), Src w k vx ys.length vals.flatten ∧ vals.length = ys.length ∧ ∀ j, j < ys.length → ∃ S : Nat → Prop, (∀ q, S q → C ≤ q ∧ q < w.heap.size ∧ g ≠ some q) ∧ R S w (vals.getD j []) (ys.getD j d0)
theorem OwnDeep.src (hR : RecS k R) {C' : Nat} {g : Option Nat} (h : OwnDeep ty k R L d0 C w v xs) (hC : C' ≤ C) (hg : ∀ q, g = some q → q < C) : SrcDeep k R d0 C' g w v xs := by
 obtain ⟨vals, ⟨hl, h1⟩, h2, h3, h4⟩ := h
 have hvl := OwnDeep.vals_len hR h2 h4
 refine ⟨vals, ?_, h2, fun j hj => ?_⟩
 ·rcases h1 with ⟨rfl, hn⟩ | ⟨b, cap, cur, rfl, hb, hh, hnc, hcm, hcs, htk⟩
  ·obtain rfl : xs = [] := List.length_eq_zero_iff.1 hn
   obtain rfl : vals = [] := List.length_eq_zero_iff.1 h2
   exact ⟨none, 0, rfl, by simp, fun j u hu => by simp at hu, fun u hu => by simp at hu⟩
  ·refine ⟨_, cap, rfl, by rw [flat_lenK hvl, h2], fun j u hu => ⟨_, rfl, ?_⟩, fun u hu => ?_⟩
   ·rw [addP, Nat.zero_add]
    simp only [World.cell?, hh]
    have hlt := (List.getElem?_eq_some_iff.1 hu).1
    rw [flat_lenK hvl, h2] at hlt
    have : (cur.toList.take (xs.length * k))[j]? = vals.flatten[j]? := by rw [htk]
    rw [List.getElem?_take, if_pos hlt, hu] at this
    simpa using this
   ·obtain ⟨c, hc, hu'⟩ := List.mem_flatten.1 hu
    obtain ⟨j, hj, rfl⟩ := List.getElem_of_mem hc
    obtain ⟨S, _, s2⟩ := h4 j (by omega)
    rw [List.getD_eq_getElem?_getD, List.getElem?_eq_getElem hj] at s2
    exact hR.one s2 u hu'
 ·obtain ⟨S, s1, s2⟩ := h4 j hj
  exact ⟨S, fun q hq => ⟨by have := (s1 q hq).1; omega, (s1 q hq).2.1, fun he => by have := hg q he; have := (s1 q hq).1; omega⟩, s2⟩
end
end Go.Proofs.Yteiaeaciaglmgaa
set_option linter.unusedVariables false
set_option linter.unusedSimpArgs false
namespace Go.Proofs.Yteiaeaciaglmgaa
open Go.RowKit
set_option maxHeartbeats 2000000 in
set_option maxRecDepth 100000 in
/-- frankingref29.Ways -/
theorem ways29_any (B : Nat) (w : World) (vs vl : Value) (f : Flow) (hf : IsFlow B w vs vl f) (hB : B ≤ w.heap.size) (hck : checkE f = 0) :
  Calls Try.prog 30 #[.agg #[vs, vl]] w fun e w' => e = .returned (.int .i64 (waysI f f.lots.length)) ∧ Below w.heap.size w w' := by
 obtain ⟨rfl, ⟨hs1, hs2⟩, hl⟩ := hf
 obtain ⟨b, off, cap, ⟨a, rfl, hcap, hmax, ha⟩, hlen, hc⟩ := hl
 have HC := Lib.hid hc
 have HA := Lib.hid ha
 have HCK := Lib.hid hck
 have hl2 : f.lots.length ≤ 2000 := (checkE_ok hck).2.2.1
 clear hc ha hck
 go_enter Try.func30, Try.ntmps30
 go_wp2
 go_loop [3, 4] (fun n i => ∃ k : Nat, k ≤ f.lots.length ∧ i = .int .i64 k ∧ n = .int .i64 (waysI f k)) (fun _ i => f.lots.length - (intOf i).toNat)
 case atStart => exact ⟨0, by omega, rfl, rfl⟩
 case round =>
  obtain ⟨k, hk, rfl, rfl⟩ := hrel
  by_cases hlt : k < f.lots.length
  ·obtain rfl : a = some ⟨b, off, none⟩ := by rcases HA.out with h | h; exact h; omega
   obtain ⟨vi, vk, vp, ⟨hb, c1⟩, ⟨_, c2⟩, _, ⟨b1, off1, cap1, ⟨a1, rfl, _⟩, _⟩, rfl, _⟩ := HC.out k hlt
   have hbB : b < w.heap.size := by omega
   have HS : Hid (waysI f (k + 1) = if (lotAt f.lots k).known then waysI f k else wayI (waysI f k) (lotAt f.lots k).ins.length) := Lib.hid rfl
   have hbd := waysI_bd f k
   obtain ⟨N, hN⟩ : ∃ N, waysI f k = N := ⟨_, rfl⟩
   rw [hN] at hbd HS ⊢
   obtain ⟨hb1, hb2⟩ := hbd
   have HO := Lib.hid (wayI_one hb2)
   have HBD := Lib.hid (wayI_bd hb1 hb2)
   have hni : 1 ≤ (lotAt f.lots k).ins.length ∧ (lotAt f.lots k).ins.length ≤ 50000 := by
    obtain ⟨_, _, _, _, hlots⟩ := checkE_ok HCK.out
    have h1 := (lotB_parts (lotsB_lot hlots hlt)).1
    have h2 := before_bd HCK.out (show k + 1 ≤ f.lots.length by omega)
    have h3 := before_bd HCK.out (show k ≤ f.lots.length by omega)
    simp only [beforeI] at h2
    exact ⟨List.length_pos_iff.2 h1, by omega⟩
   obtain ⟨n, hn⟩ : ∃ n, (lotAt f.lots k).ins.length = n := ⟨_, rfl⟩
   rw [hn] at c1 HS hni
   obtain ⟨hn1, hn2⟩ := hni
   clear hN hn
   cases hkn : (lotAt f.lots k).known
   ·rw [hkn] at c2 HS
    clear hkn
    go_wp2
    go_loop [3, 5] (fun v i => ∃ j : Nat, 1 ≤ j ∧ j ≤ n ∧ i = .int .i64 ((j : Int) + 1) ∧ v = .int .i64 (wayI N j)) (fun _ i => n + 1 - (intOf i).toNat)
    case atStart => exact ⟨1, by omega, hn1, rfl, by rw [HO.out]⟩
    case round =>
     obtain ⟨j, hj1, hj, rfl, rfl⟩ := hrel
     have HSJ : Hid (wayI N (j + 1) = min (wayI N j * ((j : Int) + 1)) 5041) := Lib.hid rfl
     obtain ⟨q1, q2⟩ := HBD.out j
     have hmul : 1 ≤ wayI N j * ((j : Int) + 1) ∧ wayI N j * ((j : Int) + 1) ≤ 5041 * 50001 := by
      have h1 := Int.mul_pos (a := wayI N j) (b := (j : Int) + 1) (by omega) (by omega)
      have h2 := Int.mul_le_mul q2 (show (j : Int) + 1 ≤ 50001 by omega) (by omega) (by omega)
      omega
     obtain ⟨x, hx⟩ : ∃ x, wayI N j = x := ⟨_, rfl⟩
     rw [hx] at HSJ hmul q1 q2 ⊢
     obtain ⟨y, hy⟩ : ∃ y, x * ((j : Int) + 1) = y := ⟨_, rfl⟩
     have HX := Lib.hid hx
     rw [hy] at HSJ hmul
     obtain ⟨hm1, hm2⟩ := hmul
     clear hx
     by_cases hjl : (j : Int) + 1 ≤ (n : Int)
     ·have hjl' : decide ((j : Int) + 1 ≤ (n : Int)) = true := decide_eq_true hjl
      go_wp2
      go_round
      case rel => exact ⟨j + 1, by omega, by omega, by go_num, by rw [HSJ.out, show min y 5041 = if 5041 < y then 5041 else y by split <;> omega]⟩
      case measure => simp [intOf]; omega
     ·have hjl' : decide ((j : Int) + 1 ≤ (n : Int)) = false := decide_eq_false hjl
      obtain rfl : j = n := by omega
      go_wp2
      go_round
      case rel => exact ⟨k + 1, by omega, by go_num, by rw [HS.out, if_neg (by decide), HX.out]⟩
      case measure => simp [intOf]; omega
   ·rw [hkn] at c2 HS
    clear hkn
    go_wp2
    go_loop [3, 5] (fun v i => i = .int .i64 2 ∧ v = .int .i64 N) (fun _ i => 0)
    case atStart => exact ⟨rfl, rfl⟩
    case round =>
     obtain ⟨rfl, rfl⟩ := hrel
     by_cases hjl : (2 : Int) ≤ (n : Int)
     ·have hjl' : decide ((2 : Int) ≤ (n : Int)) = true := decide_eq_true hjl
      go_wp2
      go_round
      case rel => exact ⟨k + 1, by omega, by go_num, by rw [HS.out]; simp⟩
      case measure => simp [intOf]; omega
     ·have hjl' : decide ((2 : Int) ≤ (n : Int)) = false := decide_eq_false hjl
      go_wp2
      go_round
      case rel => exact ⟨k + 1, by omega, by go_num, by rw [HS.out]; simp⟩
      case measure => simp [intOf]; omega
  ·obtain rfl : k = f.lots.length := by omega
   go_wp2
   go_ret
   exact ⟨rfl, (Below.refl _ _).alloc (Nat.le_refl _) _⟩
set_option maxHeartbeats 2000000 in
set_option maxRecDepth 100000 in
/-- frankingref29.Error -/
theorem error29_any (B : Nat) (w : World) (vs vl va : Value) (f : Flow) (zs : List Int) (hf : IsFlow B w vs vl f) (hx : IsInts B w va zs) (hB : B ≤ w.heap.size) :
  Calls Try.prog 26 #[.agg #[vs, vl], va] w fun e w' => e = .returned (.int .i64 (errX f zs)) ∧ Below w.heap.size w w' := by
 have HF := Lib.hid hf
 obtain ⟨bx, ox, cx, ⟨ax, rfl, hx1, hx2, _⟩, hx3, _⟩ := hx
 obtain ⟨rfl, ⟨hs1, hs2⟩, hl⟩ := hf
 obtain ⟨b, off, cap, ⟨a, rfl, hcap, hmax, ha⟩, hlen, hc⟩ := hl
 clear hc ha
 have HC := Lib.hid (fun o => check25_any B (w.alloc o) _ _ f (HF.out.below (box_below hB o) (Nat.le_refl _)) (by simp; omega))
 have HW := Lib.hid (fun W (hW : Below w.heap.size w W) => ways29_any B W _ _ f (HF.out.below hW hB) (Nat.le_trans hB hW.size))
 by_cases hck : checkE f = 0
 ·have HE : Hid (errX f zs = if 5040 < waysI f f.lots.length then 2 else if (zs.length : Int) ≠ f.senders then 1 else 0) := Lib.hid (by unfold errX; rw [if_neg (by simp [hck])])
  have HCK := Lib.hid hck
  rw [hck] at HC
  clear hck
  go_enter Try.func26, Try.ntmps26
  go_wp2_with fail
  refine (HC.out _).mono ?_
  rintro e w1 ⟨rfl, hb1⟩
  have HX1 := Lib.hid ((Box.new w #[.int .i64 f.senders, .slice a f.lots.length cap] 24).ext hb1)
  have HW1 : Hid (Below w.heap.size w w1) := Lib.hid ((box_below' w _).trans (hb1.mono (by simp)))
  obtain ⟨z1, r1⟩ := HX1.out
  clear hb1
  go_wp2_with fail
  refine (HW.out w1 HW1.out HCK.out).mono ?_
  rintro e w2 ⟨rfl, hb2⟩
  have HX2 := Lib.hid (HX1.out.ext hb2)
  have HW2 : Hid (Below w.heap.size w w2) := Lib.hid (HW1.out.trans (hb2.mono HW1.out.size))
  clear hb2 z1 r1
  obtain ⟨z2, r2⟩ := HX2.out
  obtain ⟨N, hN⟩ : ∃ N, waysI f f.lots.length = N := ⟨_, rfl⟩
  rw [hN] at HE ⊢
  clear hN
  by_cases h1 : 5040 < N
  ·have h1' : decide (5040 < N) = true := decide_eq_true h1
   have HE2 : Hid (errX f zs = 2) := Lib.hid (by rw [HE.out, if_pos h1])
   clear h1
   go_wp2
   go_ret
   exact ⟨by rw [HE2.out]; rfl, HW2.out⟩
  ·have h1' : decide (5040 < N) = false := decide_eq_false h1
   by_cases h2 : (zs.length : Int) = f.senders
   ·have h2' : ((zs.length : Int) != f.senders) = false := by rw [h2]; simp
    have HE2 : Hid (errX f zs = 0) := Lib.hid (by rw [HE.out, if_neg h1, if_neg (by simpa using h2)])
    clear h1 h2
    go_wp2
    go_ret
    exact ⟨by rw [HE2.out]; rfl, HW2.out⟩
   ·have h2' : ((zs.length : Int) != f.senders) = true := by simpa using h2
    have HE2 : Hid (errX f zs = 1) := Lib.hid (by rw [HE.out, if_neg h1, if_pos h2])
    clear h1 h2
    go_wp2
    go_ret
    exact ⟨by rw [HE2.out]; rfl, HW2.out⟩
 ·have HE : Hid (errX f zs = checkE f) := Lib.hid (by unfold errX; rw [if_pos hck])
  have hck1 : (checkE f != 0) = true := by simpa using hck
  clear hck
  go_enter Try.func26, Try.ntmps26
  go_wp2_with fail
  refine (HC.out _).mono ?_
  rintro e w1 ⟨rfl, hb1⟩
  have HW1 : Hid (Below w.heap.size w w1) := Lib.hid ((box_below' w _).trans (hb1.mono (by simp)))
  clear hb1
  go_wp2
  go_ret
  exact ⟨by rw [HE.out]; rfl, HW1.out⟩
end Go.Proofs.Yteiaeaciaglmgaa
set_option linter.unusedVariables false
set_option linter.unusedSimpArgs false
namespace Go.Proofs.Yteiaeaciaglmgaa
open Go.RowKit
def rowR (B : Nat) (w : World) (c : List Value) (d : List Int) : Prop := ∃ v, c = [v] ∧ IsInts B w v d
theorem rowK : RecK 1 rowR :=
 {len := fun h => by obtain ⟨v, rfl, _⟩ := h; rfl
  one := fun h u hu => by
   obtain ⟨v, rfl, hv⟩ := h
   obtain rfl := List.mem_singleton.1 hu
   exact hv.one
  below := fun h hb hB => by obtain ⟨v, rfl, hv⟩ := h; exact ⟨v, rfl, hv.below hb hB⟩
  mono := fun h hB => by obtain ⟨v, rfl, hv⟩ := h; exact ⟨v, rfl, hv.mono hB⟩ }
theorem IsMat.recs {B L : Nat} {w : World} {v : Value} {rows : List (List Int)} (h : IsMat B w v rows) (hL : rows.length ≤ L) : IsRecs 1 rowR L [] B w v rows := by
 obtain ⟨b, off, cap, h1, h2, h3⟩ := h
 refine ⟨b, off, cap, h1, hL, fun j hj => ?_⟩
 obtain ⟨r, r1, r2⟩ := h3 j hj
 refine ⟨[r], fun q u hq => ?_, r, rfl, r2⟩
 obtain ⟨rfl, rfl⟩ : q = 0 ∧ r = u := by
  match q, hq with
  | 0, hq => exact ⟨rfl, by simpa using hq⟩
  | q + 1, hq => simp at hq
 rw [Nat.mul_one]
 exact r1
theorem IsRecs.mat {B L : Nat} {w : World} {v : Value} {rows : List (List Int)} (h : IsRecs 1 rowR L [] B w v rows) (hL : L ≤ 5864062014634) : IsMat B w v rows := by
 obtain ⟨b, off, cap, h1, h2, h3⟩ := h
 refine ⟨b, off, cap, h1, by omega, fun j hj => ?_⟩
 obtain ⟨c, c1, r, rfl, r2⟩ := h3 j hj
 have := c1 0 r rfl
 rw [Nat.mul_one] at this
 exact ⟨r, this, r2⟩
set_option maxHeartbeats 2000000 in
set_option maxRecDepth 100000 in
/-- frankingref29.with -/
theorem with29_any (B : Nat) (w : World) (v vp : Value) (rows : List (List Int)) (p : List Int) (hv : IsMat B w v rows) (hp : IsInts B w vp p) (hB : B ≤ w.heap.size) (hl : rows.length ≤ 100000) :
  Calls Try.prog 60 #[v, vp] w fun e w' => ∃ v', e = .returned v' ∧ IsMat w'.heap.size w' v' (rows ++ [p]) ∧ Below w.heap.size w w' := by
 have HV := Lib.hid (hv.recs (L := 1000000) (by omega))
 have HP := Lib.hid hp
 obtain ⟨b, off, cap, ⟨a, rfl, _⟩, _⟩ := hv
 obtain ⟨ap, cp, rfl⟩ := hp.form
 clear hp
 go_enter Try.func60, Try.ntmps60
 go_wp2_with (first
  | (at_builtin; refine append_recsA rowK (by decide) ints_info Try.underlying26 rfl (by decide) (by decide) rfl (.tmp 5) (.tmp 6) rfl (v := .slice (some ⟨w.heap.size, 0, none⟩) 0 0) (L := 1000000) (C := w.heap.size) (d0 := []) (xs := []) (vx := .slice a rows.length cap) (ys := rows) rfl (OwnRecs.made rfl (Nat.le_refl _)) rfl ((HV.out.below rowK (box_below' w _) hB).src rowK (by decide) hB) (by simp; omega) (by simp) ?_; intro v6 w6 ho6 hg6 hat6; have HO6 := Lib.hid ho6; have HB6 : Hid (Below w.heap.size w w6) := Lib.hid ((box_below' w _).grown hg6 (by simp) (fun q hq => by have : q = w.heap.size := (by simpa [Value.ownBlock] using hq.symm); omega)); clear ho6 hg6 hat6)
  | (at_builtin; refine append_recsA rowK (by decide) ints_info Try.underlying26 rfl (by decide) (by decide) rfl (.tmp 7) (.tmp 9) rfl (v := v6) (L := 1000000) (C := w.heap.size) (d0 := []) (xs := [] ++ rows) (ys := [p]) rfl (HO6.out.below rowK (box_below' w6 _) HB6.out.size) rfl (srcRecs_one (g := w6.heap.size) (c := 1) (cs := [.slice ap p.length cp]) (d := p) rowK ?c1 ?c2) ?c3 ?c4 ?c5))
 case c1 =>
  intro q u hq
  have h := (Box.new w6 #[.slice ap p.length cp] 25).2 q
  rw [h]
  simpa using hq
 case c2 => exact ⟨_, rfl, (HP.out.below (HB6.out.trans ((box_below' w6 _).mono HB6.out.size)) hB).mono hB⟩
 case c3 => simp; omega
 case c4 => have := HB6.out.size; simp; omega
 case c5 =>
  intro v9 w9 ho9 hg9 hat9
  have HO9 := Lib.hid ho9
  have HB9 : Hid (Below w.heap.size w w9) := Lib.hid ((HB6.out.alloc HB6.out.size _).grown hg9 (by have := HB6.out.size; simp; omega) (fun q hq => (HO6.out.lt q hq).1))
  clear ho9 hg9 hat9
  go_wp2
  go_ret
  refine ⟨_, rfl, ?_, HB9.out⟩
  have h := HO9.out.isRecs rowK HB9.out.size
  exact h.mat (by decide)
end Go.Proofs.Yteiaeaciaglmgaa
set_option linter.unusedVariables false
set_option linter.unusedSimpArgs false
namespace Go.Proofs.Yteiaeaciaglmgaa
open Go.RowKit
theorem src_one {w : World} {g c : Nat} {u : Value} (hg : w.cell? ⟨g, 0, none⟩ = some u) (h1 : u.oneCell' = true) : Src w 1 (.slice (some ⟨g, 0, none⟩) 1 c) 1 [u] := by
 refine ⟨_, c, rfl, rfl, fun j u' hj => ?_, by simpa using h1⟩
 match j, hj with
 | 0, hj => simp at hj; subst hj; exact ⟨_, rfl, by simpa [Addr.add] using hg⟩
def permsTo (n r : Nat) (b : List Int) (x : Nat) : List (List Int) := (List.range x).flatMap fun (y : Nat) => if hasB b (y : Int) then [] else permsF n r (b ++ [(y : Int)])
theorem permsTo_in {n r : Nat} {b : List Int} {x : Nat} (h : hasB b (x : Int) = true) : permsTo n r b (x + 1) = permsTo n r b x := by
 unfold permsTo
 rw [List.range_succ, List.flatMap_append]
 simp [h]
theorem permsTo_out {n r : Nat} {b : List Int} {x : Nat} (h : hasB b (x : Int) = false) : permsTo n r b (x + 1) = permsTo n r b x ++ permsF n r (b ++ [(x : Int)]) := by
 unfold permsTo
 rw [List.range_succ, List.flatMap_append]
 simp [h]
theorem permsTo_all (n r : Nat) (b : List Int) : permsTo n r b n = permsF n (r + 1) b := rfl
theorem permsTo_pre {n r : Nat} {b : List Int} {x m : Nat} (h : x ≤ m) : ∃ t, permsTo n r b m = permsTo n r b x ++ t := by
 induction h with
 | refl => exact ⟨[], by simp⟩
 | @step m _ ih =>
  obtain ⟨t, ht⟩ := ih
  cases hb : hasB b (m : Int) with
  | true => exact ⟨t, by rw [permsTo_in hb, ht]⟩
  | false => exact ⟨t ++ permsF n r (b ++ [(m : Int)]), by rw [permsTo_out hb, ht, List.append_assoc]⟩
theorem Begins.snoc {n : Nat} {b : List Int} {x : Nat} (h : Begins n b) (hx : x < n) (hb : hasB b (x : Int) = false) : Begins n (b ++ [(x : Int)]) := by
 have hnb : (x : Int) ∉ b := fun hm => by rw [hasB_mem.2 hm] at hb; cases hb
 refine ⟨List.nodup_append.2 ⟨h.1, by simp, fun y hy z hz e => ?_⟩, fun y hy => ?_⟩
 ·obtain rfl := List.mem_singleton.1 hz
  subst e
  exact hnb hy
 ·rcases List.mem_append.1 hy with hy | hy
  ·exact h.2 y hy
  ·obtain rfl := List.mem_singleton.1 hy
   omega
/-- append(m, rows...) where there are rows -/
theorem append_mat {ops : Array Oper} {rest : List Oper} {o : Oper} {a : Act} {w : World} {Q : Exit → Act → World → Prop} (hgd : o.guard = none) (s x : Operand)
  (ho : o.op = .call { callee := .builtin .append, args := #[s, x], argTypes := #[26, 26] })
  {B : Nat} {v vx : Value} {rows ys : List (List Int)} (hs : a.eval s = v) (hown : OwnMat B w v rows) (hx : a.eval x = vx) (hy : OwnMat B w vx ys) (hne : ys ≠ []) (hlen : rows.length + ys.length ≤ 5864062014634) (hB : B ≤ w.heap.size)
  (h : ∀ v' w', OwnMat B w' v' (rows ++ ys) → w.grownBy w' v.ownBlock → (v'.ownBlock = v.ownBlock ∨ v'.ownBlock = some w.heap.size) → wpList Try.prog ops Q rest (a.put o.dst v') w') : wpList Try.prog ops Q (o :: rest) a w := by
 obtain ⟨i0, hi, hz0, hz1, hz2⟩ := info_parts ints_info
 obtain ⟨vals, h1, h2, h3⟩ := hown
 have hpos : 0 < ys.length := List.length_pos_iff.2 hne
 obtain ⟨g, cap, rfl, _⟩ := hy.addr hpos
 obtain ⟨ws, k1, k2, k3⟩ := hy
 have hwl : ws.length = ys.length := by have := k1.1; omega
 refine wpList_append_own_at w hgd s x 26 ho B 25 i0 (.slice none 0 0) 1 24 Try.underlying26 hi hz0 hz1 hz2 rfl (by decide) v rows.length vals hs h1 ⟨g, 0, none⟩ ys.length cap ws hx (by omega) ?_ ?_ ?_ ?_ hB ?_
 ·exact fun j u hj => k1.cells (g := g) rfl j u hj
 ·intro u hu
  obtain ⟨j, hj, rfl⟩ := List.mem_iff_getElem.1 hu
  obtain ⟨a1, c1, e, _⟩ := (k3 j (by omega)).form
  have e' : valAt ws j = ws[j] := by unfold valAt; rw [List.getD_eq_getElem?_getD, List.getElem?_eq_getElem hj]; rfl
  rw [← e', e]; rfl
 ·unfold maxLen; omega
 ·omega
 ·intro v' w' q1 q2 _ q4
  have hl : vals.length = rows.length := by have := h1.1; omega
  refine h v' w' ⟨vals ++ ws, by rw [List.length_append]; exact q1, by rw [List.length_append]; exact hlen, fun j hj => ?_⟩ q2 q4
  rw [List.length_append] at hj
  by_cases e : j < rows.length
  ·have e1 : valAt (vals ++ ws) j = valAt vals j := by unfold valAt; rw [List.getD_eq_getElem?_getD, List.getD_eq_getElem?_getD, List.getElem?_append_left (by omega)]
   have e2 : rowAt (rows ++ ys) j = rowAt rows j := by unfold rowAt; rw [List.getD_eq_getElem?_getD, List.getD_eq_getElem?_getD, List.getElem?_append_left (by omega)]
   rw [e1, e2]
   exact (h3 j e).kept q2 ((h3 j e).apart h1)
  ·have e1 : valAt (vals ++ ws) j = valAt ws (j - rows.length) := by unfold valAt; rw [List.getD_eq_getElem?_getD, List.getD_eq_getElem?_getD, List.getElem?_append_right (by omega), hl]
   have e2 : rowAt (rows ++ ys) j = rowAt ys (j - rows.length) := by unfold rowAt; rw [List.getD_eq_getElem?_getD, List.getD_eq_getElem?_getD, List.getElem?_append_right (by omega)]
   rw [e1, e2]
   exact (k3 _ (by omega)).kept q2 ((k3 _ (by omega)).apart h1)
theorem permsF_few {n r : Nat} {b : List Int} (hn : n ≤ 8) (hb : Begins n b) (hr : b.length + r = n) : (permsF n r b).length ≤ 40320 := by
 rw [permsF_len r b hb hr]
 have h := facN_mono (show r ≤ 8 by omega)
 have e : facN 8 = 40320 := by decide
 omega
set_option maxHeartbeats 4000000 in
set_option maxRecDepth 100000 in
/-- frankingref27.permsFrom -/
theorem perms29_any (n : Nat) (hn : n ≤ 8) : ∀ (r : Nat) (C : Nat) (w : World) (vb : Value) (b : List Int), Begins n b → b.length + r = n → OwnInts C w vb b → C ≤ w.heap.size →
  Calls Try.prog 59 #[vb, .int .i64 (n : Int)] w fun e w' => ∃ v, e = .returned v ∧ OwnMat C w' v (permsF n r b) ∧ Below w.heap.size w w' := by
 intro r
 induction r with
 | zero =>
  intro C w vb b hb hbr ho hC
  have hq : ((b.length : Int) == (n : Int)) = true := by rw [show b.length = n by omega]; simp
  obtain ⟨ab, cb, rfl, _⟩ := ho.form
  have HO := Lib.hid ho
  have HC := Lib.hid hC
  clear ho hb hbr hC hn
  go_enter Try.func59, Try.ntmps59
  go_wp2
  go_ret
  exact ⟨_, rfl, OwnMat.one HO.out rfl HC.out, box_below' _ _⟩
 | succ r ih =>
  intro C w vb b hb hbr ho hC
  have hq : ((b.length : Int) == (n : Int)) = false := by simp; omega
  obtain ⟨ab, cb, rfl, _⟩ := ho.form
  have HO := Lib.hid ho
  have HC := Lib.hid hC
  have HB := Lib.hid hb
  have HBR := Lib.hid hbr
  have HIH := Lib.hid ih
  have HN := Lib.hid hn
  have hn9 : (n : Int) ≤ 8 := by omega
  clear ho hb hbr hC hn ih
  go_enter Try.func59, Try.ntmps59
  go_wp2
  go_loopw [5, 6] (fun vl vx wr => ∃ x : Nat, x ≤ n ∧ vx = .int .i64 x ∧ OwnMat C wr vl (permsTo n r b x) ∧ (∀ q, vl.ownBlock = some q → w.heap.size ≤ q) ∧ Below w.heap.size w wr) (fun _ vx _ => n - (intOf vx).toNat)
  case atStart => exact ⟨0, by omega, rfl, OwnMat.made rfl HC.out, (fun q h => by have : w.heap.size = q := (by simpa [Value.ownBlock] using h); omega), box_below' w _⟩
  case round =>
   obtain ⟨x, hx, rfl, hm, hq', hbl⟩ := hrel
   obtain ⟨al, cl, rfl, _⟩ := hm.form
   have HM := Lib.hid hm
   have HQ := Lib.hid hq'
   have HBL := Lib.hid hbl
   clear hm hq' hbl
   by_cases hlt : x < n
   ·have hlt' : decide ((x : Int) < n) = true := decide_eq_true (by omega)
    have HHA := Lib.hid (has_any _ wr _ b (x : Int) (HO.out.below HBL.out).isInts)
    cases hh : hasB b (x : Int)
    ·have HX := Lib.hid hh
     rw [hh] at HHA
     have HT : Hid (permsTo n r b (x + 1) = permsTo n r b x ++ permsF n r (b ++ [(x : Int)])) := Lib.hid (permsTo_out hh)
     clear hh
     go_wp2_with (first
      | (go_at_call 68; refine HHA.out.mono ?_; rintro e w5 ⟨rfl, hw5⟩; obtain rfl := hw5.symm)
      | (at_builtin; refine append_intsA (B := C) (xs := []) rfl (.tmp 24) (.tmp 25) rfl b rfl (OwnInts.made ?a0) rfl ?a1 ?a2 ?a3 ?a4 ?a5))
     case a0 => exact Nat.le_trans HC.out HBL.out.size
     case a1 => exact ((HO.out.below HBL.out).alloc _).isInts.src
     case a2 => exact HO.out.2.2
     case a3 => have := HO.out.2.1; simpa using this
     case a4 => have := HC.out; have := HBL.out.size; simp; omega
     case a5 =>
      intro v1 w1 h1 hg1 hat1
      obtain ⟨a1, n1, c1, rfl⟩ := h1.form'
      have HO1 := Lib.hid h1
      have HB1 : Hid (Below wr.heap.size wr w1) := Lib.hid ((box_below' wr _).grown hg1 (by simp) (fun k hk => by simp [Value.ownBlock] at hk; omega))
      clear h1 hg1
      go_wp2_with (at_builtin; refine append_intsA (B := C) (xs := b) rfl (.tmp 26) (.tmp 28) rfl [(x : Int)] rfl (HO1.out.alloc _) rfl ?b1 ?b2 ?b3 ?b4 ?b5)
      case b1 => exact src_one (World.cell?_alloc_at _ _ _ _ rfl) rfl
      case b2 => intro y hy; simp at hy; subst hy; unfold I64; have := HN.out; omega
      case b3 => have := HBR.out; have := HN.out; simp; omega
      case b4 => have := HC.out; have := HBL.out.size; have := HB1.out.size; simp; omega
      case b5 =>
       intro v2 w2 h2 hg2 hat2
       obtain ⟨a2, n2, c2, rfl⟩ := h2.form'
       have HO2 := Lib.hid h2
       have HB2 : Hid (Below wr.heap.size wr w2) := Lib.hid (((HB1.out.alloc HB1.out.size _).grown hg2 (by have := HB1.out.size; simp; omega) (fun k hk => by
        rcases hat1 with e | e
        ·rw [e] at hk; simp [Value.ownBlock] at hk; omega
        ·rw [e] at hk; simp at hk; omega)))
       clear h2 hg2 hat2
       have HRE := Lib.hid (HIH.out C w2 _ _ (HB.out.snoc hlt HX.out) (by have := HBR.out; simp; omega) HO2.out (by have := HC.out; have := HBL.out.size; have := HB2.out.size; omega))
       go_wp2_with (first
        | (go_at_call 59; refine HRE.out.mono ?_; rintro e w3 ⟨v3, rfl, h3, hb3⟩; obtain ⟨a3, c3, rfl, _⟩ := h3.form; have HO3 := Lib.hid h3; have HB3 := Lib.hid hb3; clear h3 hb3)
        | (at_builtin; go_loud (refine append_mat rfl (.tmp 23) (.tmp 31) rfl rfl ((HM.out.below HB2.out).below HB3.out) rfl HO3.out ?d1 ?d2 ?d3 ?d4)))
       case d1 =>
        intro e
        have h1 := permsF_len r (b ++ [(x : Int)]) (HB.out.snoc hlt HX.out) (by have := HBR.out; simp; omega)
        rw [e] at h1
        have := facN_pos r
        simp at h1; omega
       case d2 =>
        have h1 := permsF_few HN.out (HB.out.snoc hlt HX.out) (show (b ++ [(x : Int)]).length + r = n by have := HBR.out; simp; omega)
        have h2 := permsF_few HN.out HB.out HBR.out
        rw [← permsTo_all] at h2
        obtain ⟨t, ht⟩ := permsTo_pre (n := n) (r := r) (b := b) (Nat.le_of_lt hlt)
        rw [ht, List.length_append] at h2
        omega
       case d3 => have := HC.out; have := HBL.out.size; have := HB2.out.size; have := HB3.out.size; omega
       case d4 =>
        intro v4 w4 h4 hg4 hat4
        have HO4 := Lib.hid h4
        have HG4 := Lib.hid hg4
        have HQ4 : Hid (∀ q, v4.ownBlock = some q → w.heap.size ≤ q) := Lib.hid (fun q hq => by
         rcases hat4 with e | e
         ·rw [e] at hq; exact HQ.out q hq
         ·rw [e] at hq; simp at hq; have := HBL.out.size; have := HB2.out.size; have := HB3.out.size; omega)
        clear h4 hg4 hat4
        go_wp2
        go_roundw
        case rel => exact ⟨x + 1, by omega, by go_num, by rw [HT.out]; exact HO4.out, HQ4.out, (((HBL.out.trans (HB2.out.mono HBL.out.size)).trans (HB3.out.mono (by have := HBL.out.size; have := HB2.out.size; omega))).grown HG4.out (by have := HBL.out.size; have := HB2.out.size; have := HB3.out.size; omega) HQ.out)⟩
        case measure => simp [intOf]; omega
    ·have HX := Lib.hid hh
     rw [hh] at HHA
     have HT : Hid (permsTo n r b (x + 1) = permsTo n r b x) := Lib.hid (permsTo_in hh)
     clear hh
     go_wp2_with (go_at_call 68; refine HHA.out.mono ?_; rintro e w5 ⟨rfl, hw5⟩; obtain rfl := hw5.symm)
     go_roundw
     case rel => exact ⟨x + 1, by omega, by go_num, by rw [HT.out]; exact HM.out, HQ.out, HBL.out⟩
     case measure => simp [intOf]; omega
   ·obtain rfl : x = n := by omega
    have hlt' : decide ((x : Int) < x) = false := decide_eq_false (by omega)
    have HA := Lib.hid (permsTo_all (n := x) (r := r) (b := b))
    go_wp2
    go_ret
    exact ⟨_, rfl, by rw [← HA.out]; exact HM.out, HBL.out⟩
end Go.Proofs.Yteiaeaciaglmgaa
set_option linter.unusedVariables false
set_option linter.unusedSimpArgs false
namespace Go.Proofs.Yteiaeaciaglmgaa
open Go.RowKit
theorem OwnLots.isLots {C : Nat} {w : World} {v : Value} {ls : List Lot} (h : OwnLots C w v ls) (hC : C ≤ w.heap.size) : IsLots w.heap.size w v ls := by
 obtain ⟨vals, ⟨hl, h1⟩, h2, h3, h4⟩ := h
 rcases h1 with ⟨rfl, hn⟩ | ⟨g, cap, cur, rfl, hb, hg, hnc, hcm, hcs, htk⟩
 ·exact ⟨0, 0, 0, ⟨none, by rw [hn], by omega, by omega, Or.inr hn⟩, h3, fun j hj => by omega⟩
 ·refine ⟨g, 0, cap, ⟨some ⟨g, 0, none⟩, rfl, hnc, by unfold maxLen at hcm; omega, Or.inl rfl⟩, h3, fun j hj => ⟨(v3At vals j).i, (v3At vals j).k, (v3At vals j).p, ?_⟩⟩
  have hgl := (Array.getElem?_eq_some_iff.1 hg).1
  have key : ∀ q u, q < ls.length * 3 → (flat vals)[q]? = some u → w.cell? ⟨g, 0 + q, none⟩ = some u := by
   intro q u hq hu
   simp only [World.cell?, hg, Nat.zero_add]
   have : (cur.toList.take (ls.length * 3))[q]? = (flat vals)[q]? := by rw [htk]
   rw [List.getElem?_take, if_pos hq, hu] at this
   simpa using this
  have hf := flat_get vals j (by omega)
  exact ⟨⟨hgl, key _ _ (by omega) hf.1⟩, ⟨hgl, key _ _ (by omega) hf.2.1⟩, ⟨hgl, key _ _ (by omega) hf.2.2⟩, (h4 j hj).mono hC⟩
theorem OwnLots.ltX {C : Nat} {w : World} {v : Value} {ls : List Lot} (h : OwnLots C w v ls) : ∀ k, v.ownBlock = some k → C ≤ k ∧ k < w.heap.size := by
 obtain ⟨vals, h1, _⟩ := h
 exact fun k hk => h1.lt k hk
theorem OwnLots.setX {C p : Nat} {w : World} {v : Value} {ls : List Lot} (h : OwnLots C w v ls) (hC : C ≤ w.heap.size) (hp : C ≤ p) (hne : v.ownBlock ≠ some p) (i : Nat) (u : Value) : OwnLots C (w.setCell ⟨p, i, none⟩ u) v ls :=
 h.kept (grown_setCell w ⟨p, i, none⟩ u) (fun k hk => by cases hk; exact hp) hC (.inr hne)
theorem below_drewN {B : Nat} {w w' : World} (h : Below B w w') (n : Nat) : Below B w (w'.drewN n) := h.trans (Drew.below ⟨n, rfl⟩ B)
/-- fb: the lot is made, fa: it is appended, fs: the list is stored; w0: the world at the function's start, w1: at the region's -/
structure ApL (C c2 : Nat) (w0 w1 : World) (s vL : Value) (ls : List Lot) (x : Lot) (lc : Array Value) (fb fa fs : Bool) (xb xa : Value) (w : World) : Prop where
 hb : Below C w0 w
 hC : C ≤ c2 ∧ c2 < w1.heap.size ∧ C ≤ w1.heap.size
 sz : w1.heap.size ≤ w.heap.size
 ho : ∀ k, k < w1.heap.size → k ≠ c2 → vL.ownBlock ≠ some k → w.heap[k]? = w1.heap[k]?
 nv : vL.ownBlock ≠ some c2 ∧ ∀ k, vL.ownBlock = some k → k < w1.heap.size
 hv : fa = false → OwnLots C w vL ls
 hq : fb = true → fa = false → ∃ q, xb = .slice (some ⟨q, 0, none⟩) 1 1 ∧ w1.heap.size ≤ q ∧ CellsN w q lc
 ha : fa = true → OwnLots C w xa (ls ++ [x]) ∧ xa.ownBlock ≠ some c2 ∧ (xa.ownBlock = vL.ownBlock ∨ ∃ q, xa.ownBlock = some q ∧ w1.heap.size ≤ q)
 hc : fs = false → CellsN w c2 #[s, vL]
 he : fs = true → CellsN w c2 #[s, xa]
 c1 : fs = true → fa = true
 c0 : fa = true → fb = true
section
variable {C c2 : Nat} {w0 w1 : World} {s vL : Value} {ls : List Lot} {x : Lot} {lc : Array Value} {fb fa fs : Bool} {xb xa : Value} {w : World}
theorem ApL.start (hb : Below C w0 w1) (hC : C ≤ c2) (h2 : C ≤ w1.heap.size) (hv : OwnLots C w1 vL ls) (nv : vL.ownBlock ≠ some c2) (hc : CellsN w1 c2 #[s, vL]) (n : Nat) : ApL C c2 w0 w1 s vL ls x lc false false false xb xa (w1.drewN n) :=
 {hb := hb.trans (below_drewN (Below.refl _ _) n), hC := ⟨hC, hc.lt, h2⟩, sz := Nat.le_refl _, ho := (fun k _ _ _ => rfl), nv := ⟨nv, fun k hk => (hv.ltX k hk).2⟩,
  hv := (fun _ => hv), hq := (fun h => by cases h), ha := (fun h => by cases h), hc := (fun _ => hc), he := (fun h => by cases h), c1 := (fun h => by cases h), c0 := (fun h => by cases h) }
variable (h : ApL C c2 w0 w1 s vL ls x lc fb fa fs xb xa w)
include h
theorem ApL.sb (hi : fb = false) {xb' : Value} (t : TypeId) (he : xb' = .slice (some ⟨w.heap.size, 0, none⟩) 1 1) : ApL C c2 w0 w1 s vL ls x lc true fa fs xb' xa (w.alloc (.cells lc t)) := by
 have hfa : fa = false := by
  cases e : fa with
  | false => rfl
  | true => have := h.c0 e; rw [hi] at this; cases this
 have hfs : fs = false := by
  cases e : fs with
  | false => rfl
  | true => have := h.c1 e; rw [hfa] at this; cases this
 have hz := Nat.le_trans h.hC.2.2 h.sz
 subst hfa hfs
 exact {
  hb := h.hb.alloc hz _, hC := h.hC, sz := (by have := h.sz; simp; omega), ho := (fun k hk h1 h2 => ((box_below' w (.cells lc t)).block k (by have := h.sz; omega)).trans (h.ho k hk h1 h2)), nv := h.nv,
  hv := (fun _ => (h.hv rfl).allocX hz _), hq := (fun _ _ => ⟨_, he, h.sz, CellsN.new w lc t⟩), ha := (fun e => by cases e), hc := (fun _ => (h.hc rfl).alloc _), he := (fun e => by cases e), c1 := (fun e => by cases e), c0 := (fun e => by cases e) }
theorem ApL.sa (hi : fa = false) (hfb : fb = true) {v' : Value} {w' : World} (ho : OwnLots C w' v' (ls ++ [x])) (hg : w.grownBy w' vL.ownBlock) (hat : v'.ownBlock = vL.ownBlock ∨ v'.ownBlock = some w.heap.size) : ApL C c2 w0 w1 s vL ls x lc fb true fs xb v' w' := by
 have hfs : fs = false := by
  cases e : fs with
  | false => rfl
  | true => have := h.c1 e; rw [hi] at this; cases this
 have hz := Nat.le_trans h.hC.2.2 h.sz
 have hlt := h.hv hi |>.ltX
 subst hi hfs
 have hne : v'.ownBlock ≠ some c2 := by
  rcases hat with e | e
  ·rw [e]; exact h.nv.1
  ·rw [e]; intro e'; have := h.hC.2.1; have := h.sz; simp at e'; omega
 exact {
  hb := h.hb.grown hg hz (fun k hk => (hlt k hk).1), hC := h.hC, sz := Nat.le_trans h.sz hg.size, ho := (fun k hk h1 h2 => (hg.block k (by have := h.sz; omega) (fun e => h2 e.symm)).trans (h.ho k hk h1 h2)), nv := h.nv,
  hv := (fun e => by cases e), hq := (fun _ e => by cases e), ha := (fun _ => ⟨ho, hne, by rcases hat with e | e; exact .inl e; exact .inr ⟨_, e, h.sz⟩⟩), hc := (fun _ => (h.hc rfl).grown hg (fun e => h.nv.1 e.symm)), he := (fun e => by cases e), c1 := (fun e => by cases e), c0 := (fun _ => hfb) }
theorem ApL.ss (hi : fs = false) (hfa : fa = true) : ApL C c2 w0 w1 s vL ls x lc fb fa true xb xa (w.setCell ⟨c2, 1, none⟩ xa) := by
 have hz := Nat.le_trans h.hC.2.2 h.sz
 subst hi hfa
 obtain ⟨h1, h2, h3⟩ := h.ha rfl
 have hg := grown_setCell w ⟨c2, 1, none⟩ xa
 exact {
  hb := h.hb.setCell (p := ⟨c2, 1, none⟩) h.hC.1 _, hC := h.hC, sz := Nat.le_trans h.sz hg.size, ho := (fun k hk q1 q2 => (hg.block k (by have := h.sz; omega) (fun e => q1 (by simpa using e))).trans (h.ho k hk q1 q2)), nv := h.nv,
  hv := (fun e => by cases e), hq := (fun _ e => by cases e), ha := (fun _ => ⟨h1.setX hz h.hC.1 h2 1 _, h2, h3⟩), hc := (fun e => by cases e), he := (fun _ => by simpa using (h.hc rfl).set 1 xa), c1 := (fun _ => rfl), c0 := h.c0 }
/-- what other blocks hold -/
theorem ApL.cell {k i : Nat} (hk : k < w1.heap.size) (h1 : k ≠ c2) (h2 : vL.ownBlock ≠ some k) : w.cell? ⟨k, i, none⟩ = w1.cell? ⟨k, i, none⟩ := by
 simp only [World.cell?, h.ho k hk h1 h2]
end
end Go.Proofs.Yteiaeaciaglmgaa
set_option linter.unusedVariables false
set_option linter.unusedSimpArgs false
namespace Go.Proofs.Yteiaeaciaglmgaa
open Go.RowKit
theorem srcLots_one {C g c : Nat} {w : World} {vi vk vp : Value} {d : Lot} (h1 : w.cell? ⟨g, 0, none⟩ = some vi) (h2 : w.cell? ⟨g, 1, none⟩ = some vk) (h3 : w.cell? ⟨g, 2, none⟩ = some vp) (hd : IsLot C w vi vk vp d) : SrcLots C w (.slice (some ⟨g, 0, none⟩) 1 c) [d] := by
 refine ⟨[⟨vi, vk, vp⟩], ⟨_, c, rfl, rfl, fun q u hu => ?_, ?_⟩, rfl, fun j hj => ?_⟩
 ·refine ⟨_, rfl, ?_⟩
  rw [add3]
  simp only [flat] at hu
  match q, hu with
  | 0, hu => simp at hu; subst hu; simpa using h1
  | 1, hu => simp at hu; subst hu; simpa using h2
  | 2, hu => simp at hu; subst hu; simpa using h3
 ·have := hd.one
  simp [flat, this.1, this.2.1, this.2.2]
 ·have : j = 0 := by simpa using hj
  subst this
  exact hd
theorem wp_name {P : Program} {Q : Exit → Act → World → Prop} {c : Code} {a : Act} {w : World} (h : ∀ W, W = w → Code.wp P c Q a W) : Code.wp P c Q a w := h w rfl
set_option maxHeartbeats 2000000 in
/-- frankingref29.SameWay -/
theorem sameway29_any (B B' : Nat) (w : World) (v v' : Value) (xs ys : List (List Int)) (hv : IsMat B w v xs) (hv' : IsMat B' w v' ys) :
  Calls Try.prog 15 #[v, v'] w fun e w' => e = .returned (.bool (sameM xs ys)) ∧ Drew w w' := by
 obtain ⟨b, off, cap, ⟨a, rfl, hcap, hmax, ha⟩, hlen, hc⟩ := hv
 obtain ⟨b', off', cap', ⟨a', rfl, hcap', hmax', ha'⟩, hlen', hc'⟩ := hv'
 have HC := Lib.hid hc
 have HC' := Lib.hid hc'
 have HA := Lib.hid ha
 have HA' := Lib.hid ha'
 clear hc hc' ha ha'
 by_cases hl : xs.length = ys.length
 ·have hne2 : ((xs.length : Int) != (ys.length : Int)) = false := by rw [hl]; simp
  have HL := Lib.hid hl
  clear hl
  go_enter Try.func15, Try.ntmps15
  go_wp2
  go_loopw [5] (fun i wr => ∃ k : Nat, k ≤ xs.length ∧ i = .int .i64 k ∧ sameMTo xs ys k = true ∧ Drew w wr) (fun i _ => xs.length - (intOf i).toNat)
  case atStart => exact ⟨0, by omega, rfl, rfl, Drew.refl _⟩
  case round =>
   obtain ⟨k, hk, rfl, he, hd⟩ := hrel
   have HE := Lib.hid he
   have HD := Lib.hid hd
   clear he hd
   by_cases h1 : k < xs.length
   ·have h2 : k < ys.length := by rw [← HL.out]; exact h1
    obtain rfl : a = some ⟨b, off, none⟩ := by rcases HA.out with h | h; exact h; omega
    obtain rfl : a' = some ⟨b', off', none⟩ := by rcases HA'.out with h | h; exact h; omega
    obtain ⟨r1, q1, i1⟩ := HC.out k h1
    obtain ⟨r2, q2, i2⟩ := HC'.out k h2
    have c1 := (HD.out.cell _).trans q1.2
    have c2 := (HD.out.cell _).trans q2.2
    have HCC := Lib.hid (fun m => same_any _ (wr.drewN m) r1 r2 (rowAt xs k) (rowAt ys k) ((i1.drew (HD.out.drewN m)).mono (Nat.le_max_left B B')) ((i2.drew (HD.out.drewN m)).mono (Nat.le_max_right B B')))
    have HS : Hid (sameMTo xs ys (k + 1) = (sameMTo xs ys k && sameB (rowAt xs k) (rowAt ys k))) := Lib.hid rfl
    obtain ⟨a1, n1, k1, rfl⟩ : ∃ a n c, r1 = .slice a n c := by obtain ⟨_, _, c, ⟨a, e, _⟩, _⟩ := i1; exact ⟨a, _, c, e⟩
    obtain ⟨a2, n2, k2, rfl⟩ : ∃ a n c, r2 = .slice a n c := by obtain ⟨_, _, c, ⟨a, e, _⟩, _⟩ := i2; exact ⟨a, _, c, e⟩
    clear q1 q2 i1 i2
    go_wp2
    go_quiet ((go_at_call 25; exact Calls.quiet_of (HCC.out _)))
    cases hq : sameB (rowAt xs k) (rowAt ys k)
    ·have HR := Lib.hid (sameM_not hq)
     clear hq
     go_wp2
     go_ret
     exact ⟨by rw [HR.out]; rfl, HD.out.drewN _⟩
    ·have HR : Hid (sameMTo xs ys (k + 1) = true) := Lib.hid (by rw [HS.out, HE.out, hq]; rfl)
     clear hq
     go_wp2
     go_roundw
     case rel => exact ⟨k + 1, by omega, by go_num, HR.out, HD.out.drewN _⟩
     case measure => simp [intOf]; omega
   ·have HR : Hid (sameM xs ys = true) := Lib.hid (sameM_all HL.out (by rw [show xs.length = k by omega]; exact HE.out))
    go_wp2
    go_ret
    exact ⟨by rw [HR.out]; rfl, HD.out⟩
 ·have HR : Hid (sameM xs ys = false) := Lib.hid (sameM_len hl)
  have hne2 : ((xs.length : Int) != (ys.length : Int)) = true := by simp; omega
  clear hl
  go_enter Try.func15, Try.ntmps15
  go_wp2
  go_ret
  exact ⟨by rw [HR.out]; rfl, Drew.refl _⟩
set_option maxHeartbeats 4000000 in
set_option maxRecDepth 100000 in
/-- frankingref29.Along -/
theorem along29_any (B : Nat) (w : World) (vs vl vw : Value) (f : Flow) (W : List (List Int)) (hf : IsFlow B w vs vl f) (hw : IsMat B w vw W) (hB : B ≤ w.heap.size) (hl : f.lots.length ≤ W.length) (h2 : f.lots.length ≤ 2000) :
  Calls Try.prog 24 #[.agg #[vs, vl], vw] w fun e w' => ∃ v, e = .returned (.agg #[.int .i64 f.senders, v]) ∧ IsLots w'.heap.size w' v (alongL f W f.lots.length) ∧ Below w.heap.size w w' := by
 obtain ⟨rfl, ⟨hs1, hs2⟩, hl'⟩ := hf
 obtain ⟨b, off, cap, ⟨a, rfl, hcap, hmax, ha⟩, hlen, hc⟩ := hl'
 obtain ⟨bw, ow, cw, ⟨aw, rfl, hcapw, hmaxw, haw⟩, hlenw, hcw⟩ := hw
 have HC := Lib.hid hc
 have HA := Lib.hid ha
 have HCW := Lib.hid hcw
 have HAW := Lib.hid haw
 have HLW := Lib.hid hl
 clear hc ha hcw haw
 go_enter Try.func24, Try.ntmps24
 go_wp2
 refine wp_name (fun W3 hW3 => ?_)
 have HX0 : Hid (Box W3 w.heap.size #[.int .i64 f.senders, .slice a f.lots.length cap]) := Lib.hid (by rw [hW3]; exact ((Box.new w #[.int .i64 f.senders, .slice a f.lots.length cap] 24).alloc _).alloc _)
 have HX1 : Hid (CellsN W3 (w.heap.size + 1) #[.int .i64 0, .slice none 0 0]) := Lib.hid (by
  rw [hW3]
  have h := CellsN.new (w.alloc (.cells #[.int .i64 f.senders, .slice a f.lots.length cap] 24)) #[.int .i64 0, .slice none 0 0] 24
  rw [World.size_alloc] at h
  exact h.alloc _)
 have HX2 : Hid (CellsN W3 (w.heap.size + 1 + 1) #[.int .i64 f.senders, .slice none 0 0]) := Lib.hid (by
  rw [hW3]
  have h := CellsN.new ((w.alloc (.cells #[.int .i64 f.senders, .slice a f.lots.length cap] 24)).alloc (.cells #[.int .i64 0, .slice none 0 0] 24)) #[.int .i64 f.senders, .slice none 0 0] 24
  simp only [World.size_alloc] at h
  exact h)
 have HB3 : Hid (Below w.heap.size w W3) := Lib.hid (by
  rw [hW3]
  exact (((Below.refl w.heap.size w).alloc (Nat.le_refl _) _).alloc (by simp) _).alloc (by simp; omega) _)
 clear hW3
 go_loopw [6] (fun i wr => ∃ k v, k ≤ f.lots.length ∧ i = .int .i64 (k : Int) ∧ OwnLots w.heap.size wr v (alongL f W k) ∧ v.ownBlock ≠ some w.heap.size ∧ v.ownBlock ≠ some (w.heap.size + 1) ∧ v.ownBlock ≠ some (w.heap.size + 1 + 1) ∧ Box wr w.heap.size #[.int .i64 f.senders, .slice a f.lots.length cap] ∧ CellsN wr (w.heap.size + 1) #[.int .i64 0, .slice none 0 0] ∧ CellsN wr (w.heap.size + 1 + 1) #[.int .i64 f.senders, v] ∧ Below w.heap.size w wr) (fun i _ => f.lots.length - (intOf i).toNat)
 case atStart => exact ⟨0, .slice none 0 0, by omega, rfl, OwnLots.nil _ _, by simp [Value.ownBlock], by simp [Value.ownBlock], by simp [Value.ownBlock], HX0.out, HX1.out, HX2.out, HB3.out⟩
 case round =>
  obtain ⟨k, v, hk, rfl, hv, n0, n1, n2, x0, x1, x2, hbr⟩ := hrel
  have HV := Lib.hid hv
  have HY0 := Lib.hid x0
  have HY1 := Lib.hid x1
  have HY2 := Lib.hid x2
  have HBR := Lib.hid hbr
  obtain ⟨z0, r0⟩ := x0
  clear hbr HX0 HX1 HX2
  by_cases hlt : k < f.lots.length
  ·obtain rfl : a = some ⟨b, off, none⟩ := by rcases HA.out with h | h; exact h; omega
   obtain rfl : aw = some ⟨bw, ow, none⟩ := by rcases HAW.out with h | h; exact h; omega
   have hkw : k < W.length := by omega
   obtain ⟨vi, vk, vp, q1, _, _, hlot⟩ := HC.out k hlt
   obtain ⟨hli, _, _⟩ := hlot
   obtain ⟨ai, ci, rfl⟩ := hli.form
   obtain ⟨vr, hr1, hr2⟩ := HCW.out k hkw
   obtain ⟨ar, cr, rfl⟩ := hr2.form
   obtain ⟨av, nv, cv, rfl⟩ : ∃ a n c, v = .slice a n c := by obtain ⟨a, c, e⟩ := hv.form; exact ⟨_, _, _, e⟩
   have HKB : Hid (∀ W', Below w.heap.size w W' → W'.cell? ⟨b, off + k * 3, none⟩ = some (.slice ai (lotAt f.lots k).ins.length ci) ∧ W'.cell? ⟨bw, ow + k, none⟩ = some (.slice ar (rowAt W k).length cr)) := Lib.hid fun W' hW => ⟨(q1.below hW hB).2, (hr1.below hW hB).2⟩
   have HLX : Hid (∀ W', Below w.heap.size w W' → IsLot w.heap.size W' (.slice ai (lotAt f.lots k).ins.length ci) (.bool true) (.slice ar (rowAt W k).length cr) ⟨(lotAt f.lots k).ins, true, rowAt W k⟩) := Lib.hid fun W' hW => ⟨(hli.below hW hB).mono hB, rfl, (hr2.below hW hB).mono hB⟩
   have HLL : Hid ((alongL f W k).length = k) := Lib.hid (alongL_len f W k)
   have HLS : Hid (alongL f W (k + 1) = alongL f W k ++ [⟨(lotAt f.lots k).ins, true, rowAt W k⟩]) := Lib.hid rfl
   obtain ⟨WA, rfl⟩ : ∃ W', W' = wr := ⟨_, rfl⟩
   clear q1 hr1 hr2 hli hv x1 x2
   go_upto_region 5 with fail
   obtain ⟨V, hV⟩ : ∃ V : List (Option Value), V = [some (.pointer (some ⟨w.heap.size + 1 + 1, 1, none⟩)), some (.slice av nv cv), some (.pointer (some ⟨w.heap.size, 1, none⟩)), some (.slice (some ⟨b, off, none⟩) f.lots.length cap), some (.int .i64 (k : Int)), some (.pointer (some ⟨b, off + k * 3, none⟩)), some (.pointer (some ⟨b, off + k * 3, none⟩)), some (.slice ai (lotAt f.lots k).ins.length ci), some (.slice (some ⟨bw, ow, none⟩) W.length cw), some (.int .i64 (k : Int)), some (.pointer (some ⟨bw, ow + k, none⟩)), some (.slice ar (rowAt W k).length cr), some (.agg #[.slice ai (lotAt f.lots k).ins.length ci, .bool true, .slice ar (rowAt W k).length cr]), none, none, some (.pointer (some ⟨w.heap.size + 1 + 1, 1, none⟩)), none] := ⟨_, rfl⟩
   have HVV := Lib.hid hV
   clear hV
   refine wp_region_V [some 17, some 18, some 19, some 20, some 21, some 22, some 23, some 24, some 25, some 26, some 27, some 28, some 29, some 30, some 31, some 32, none] (fun L w' xs => ValsAt V L xs ∧ (ApL w.heap.size (w.heap.size + 1 + 1) w WA (.int .i64 f.senders) (.slice av nv cv) (alongL f W k) ⟨(lotAt f.lots k).ins, true, rowAt W k⟩ #[.slice ai (lotAt f.lots k).ins.length ci, .bool true, .slice ar (rowAt W k).length cr] (L 13) (L 14) (L 16) (xs 13) (xs 14) w' ∧ (L 16 = true → L 1 = true ∧ L 14 = true))) (by kernel_rfl) (by kernel_rfl) (by rfl) (by rfl) (by rfl) ?_ ?_ ?_
   focus
    exact fun xs => ⟨ValsAt.none _ _, (by exact ApL.start HBR.out (by omega) HBR.out.size HV.out n2 HY2.out 1), (fun e => by cases e)⟩
   focus
    refine ⟨?_, ?_, ?_, ?_, ?_, ?_, ?_, ?_, ?_, ?_, ?_, ?_, ?_, ?_, ?_, ?_, ?_, trivial⟩
    all_goals
     intro L a' w' xs hi hd hf hJ K hK
     obtain ⟨hv, hA, h16⟩ := hJ
     have HF := Lib.hid hf
     have HVA := Lib.hid hv
     have HLI := Lib.hid hi
     clear hf hv hi
    focus
     clear hd
     obtain ⟨ρ, hρ⟩ : ∃ ρ, a'.eval = ρ := ⟨_, rfl⟩
     have hcst : ∀ v, ρ (.const v) = v := fun v => (congrFun hρ (.const v)).symm
     have l5 : ρ (.tmp 5) = .pointer (some ⟨w.heap.size + 1 + 1, 0, none⟩) := (congrFun hρ (.tmp 5)).symm.trans (HF.out.lo 5 rfl)
     rw [if_pos (by simp [Region.wanted])]
     unfold Oper.wp
     rw [hρ]
     clear hρ
     go_simp
     exact hK.out _ _ ⟨HVA.out.set (i := 0) (by rw [HVV.out]; rfl), (by simp only [updV_ne (xs := xs) (show (13 : Nat) ≠ 0 by decide), updV_ne (xs := xs) (show (14 : Nat) ≠ 0 by decide)]; exact hA), h16⟩
    focus
     obtain ⟨d0, _⟩ := hd
     obtain ⟨ρ, hρ⟩ : ∃ ρ, a'.eval = ρ := ⟨_, rfl⟩
     have hcst : ∀ v, ρ (.const v) = v := fun v => (congrFun hρ (.const v)).symm
     have v0 : ρ (.tmp 17) = .pointer (some ⟨w.heap.size + 1 + 1, 1, none⟩) := (congrFun hρ (.tmp 17)).symm.trans ((HF.out.ev 0 rfl d0).trans (HVA.out 0 _ (by rw [HVV.out]; rfl) d0))
     have hN : L 16 = false := by
      cases e : L 16 with
      | false => rfl
      | true => have := (h16 e).1; rw [HLI.out] at this; cases this
     have m1 := (hA.hc hN).cell 1
     simp at m1
     rw [if_pos (by simp [Region.wanted])]
     unfold Oper.wp
     rw [hρ]
     clear hρ
     go_simp
     exact hK.out _ _ ⟨HVA.out.set (i := 1) (by rw [HVV.out]; rfl), (by simp only [updV_ne (xs := xs) (show (13 : Nat) ≠ 1 by decide), updV_ne (xs := xs) (show (14 : Nat) ≠ 1 by decide)]; exact hA), (fun e => ⟨rfl, (h16 e).2⟩)⟩
    focus
     clear hd
     obtain ⟨ρ, hρ⟩ : ∃ ρ, a'.eval = ρ := ⟨_, rfl⟩
     have hcst : ∀ v, ρ (.const v) = v := fun v => (congrFun hρ (.const v)).symm
     have l2 : ρ (.tmp 2) = .pointer (some ⟨w.heap.size, 0, none⟩) := (congrFun hρ (.tmp 2)).symm.trans (HF.out.lo 2 rfl)
     rw [if_pos (by simp [Region.wanted])]
     unfold Oper.wp
     rw [hρ]
     clear hρ
     go_simp
     exact hK.out _ _ ⟨HVA.out.set (i := 2) (by rw [HVV.out]; rfl), (by simp only [updV_ne (xs := xs) (show (13 : Nat) ≠ 2 by decide), updV_ne (xs := xs) (show (14 : Nat) ≠ 2 by decide)]; exact hA), h16⟩
    focus
     obtain ⟨d2, _⟩ := hd
     obtain ⟨ρ, hρ⟩ : ∃ ρ, a'.eval = ρ := ⟨_, rfl⟩
     have hcst : ∀ v, ρ (.const v) = v := fun v => (congrFun hρ (.const v)).symm
     have v2 : ρ (.tmp 19) = .pointer (some ⟨w.heap.size, 1, none⟩) := (congrFun hρ (.tmp 19)).symm.trans ((HF.out.ev 2 rfl d2).trans (HVA.out 2 _ (by rw [HVV.out]; rfl) d2))
     have m1 := hA.cell (i := 1) z0 (by omega) n0
     have r1 := r0 1
     simp at r1
     rw [r1] at m1
     rw [if_pos (by simp [Region.wanted])]
     unfold Oper.wp
     rw [hρ]
     clear hρ
     go_simp
     exact hK.out _ _ ⟨HVA.out.set (i := 3) (by rw [HVV.out]; rfl), (by simp only [updV_ne (xs := xs) (show (13 : Nat) ≠ 3 by decide), updV_ne (xs := xs) (show (14 : Nat) ≠ 3 by decide)]; exact hA), h16⟩
    focus
     clear hd
     obtain ⟨ρ, hρ⟩ : ∃ ρ, a'.eval = ρ := ⟨_, rfl⟩
     have hcst : ∀ v, ρ (.const v) = v := fun v => (congrFun hρ (.const v)).symm
     have l6 : ρ (.tmp 6) = .int .i64 (k : Int) := (congrFun hρ (.tmp 6)).symm.trans (HF.out.lo 6 rfl)
     rw [if_pos (by simp [Region.wanted])]
     unfold Oper.wp
     rw [hρ]
     clear hρ
     go_simp
     exact hK.out _ _ ⟨HVA.out.set (i := 4) (by rw [HVV.out]; rfl), (by simp only [updV_ne (xs := xs) (show (13 : Nat) ≠ 4 by decide), updV_ne (xs := xs) (show (14 : Nat) ≠ 4 by decide)]; exact hA), h16⟩
    focus
     obtain ⟨d3, d4, _⟩ := hd
     obtain ⟨ρ, hρ⟩ : ∃ ρ, a'.eval = ρ := ⟨_, rfl⟩
     have hcst : ∀ v, ρ (.const v) = v := fun v => (congrFun hρ (.const v)).symm
     have v3 : ρ (.tmp 20) = .slice (some ⟨b, off, none⟩) f.lots.length cap := (congrFun hρ (.tmp 20)).symm.trans ((HF.out.ev 3 rfl d3).trans (HVA.out 3 _ (by rw [HVV.out]; rfl) d3))
     have v4 : ρ (.tmp 21) = .int .i64 (k : Int) := (congrFun hρ (.tmp 21)).symm.trans ((HF.out.ev 4 rfl d4).trans (HVA.out 4 _ (by rw [HVV.out]; rfl) d4))
     rw [if_pos (by simp [Region.wanted])]
     unfold Oper.wp
     rw [hρ]
     clear hρ
     go_simp
     exact hK.out _ _ ⟨HVA.out.set (i := 5) (by rw [HVV.out]; rfl), (by simp only [updV_ne (xs := xs) (show (13 : Nat) ≠ 5 by decide), updV_ne (xs := xs) (show (14 : Nat) ≠ 5 by decide)]; exact hA), h16⟩
    focus
     obtain ⟨d5, _⟩ := hd
     obtain ⟨ρ, hρ⟩ : ∃ ρ, a'.eval = ρ := ⟨_, rfl⟩
     have hcst : ∀ v, ρ (.const v) = v := fun v => (congrFun hρ (.const v)).symm
     have v5 : ρ (.tmp 22) = .pointer (some ⟨b, off + k * 3, none⟩) := (congrFun hρ (.tmp 22)).symm.trans ((HF.out.ev 5 rfl d5).trans (HVA.out 5 _ (by rw [HVV.out]; rfl) d5))
     rw [if_pos (by simp [Region.wanted])]
     unfold Oper.wp
     rw [hρ]
     clear hρ
     go_simp
     exact hK.out _ _ ⟨HVA.out.set (i := 6) (by rw [HVV.out]; rfl), (by simp only [updV_ne (xs := xs) (show (13 : Nat) ≠ 6 by decide), updV_ne (xs := xs) (show (14 : Nat) ≠ 6 by decide)]; exact hA), h16⟩
    focus
     obtain ⟨d6, _⟩ := hd
     obtain ⟨ρ, hρ⟩ : ∃ ρ, a'.eval = ρ := ⟨_, rfl⟩
     have hcst : ∀ v, ρ (.const v) = v := fun v => (congrFun hρ (.const v)).symm
     have v6 : ρ (.tmp 23) = .pointer (some ⟨b, off + k * 3, none⟩) := (congrFun hρ (.tmp 23)).symm.trans ((HF.out.ev 6 rfl d6).trans (HVA.out 6 _ (by rw [HVV.out]; rfl) d6))
     obtain ⟨k0, k1⟩ := HKB.out _ hA.hb
     rw [if_pos (by simp [Region.wanted])]
     unfold Oper.wp
     rw [hρ]
     clear hρ
     go_simp
     exact hK.out _ _ ⟨HVA.out.set (i := 7) (by rw [HVV.out]; rfl), (by simp only [updV_ne (xs := xs) (show (13 : Nat) ≠ 7 by decide), updV_ne (xs := xs) (show (14 : Nat) ≠ 7 by decide)]; exact hA), h16⟩
    focus
     clear hd
     obtain ⟨ρ, hρ⟩ : ∃ ρ, a'.eval = ρ := ⟨_, rfl⟩
     have hcst : ∀ v, ρ (.const v) = v := fun v => (congrFun hρ (.const v)).symm
     have l1 : ρ (.tmp 1) = .slice (some ⟨bw, ow, none⟩) W.length cw := (congrFun hρ (.tmp 1)).symm.trans (HF.out.lo 1 rfl)
     rw [if_pos (by simp [Region.wanted])]
     unfold Oper.wp
     rw [hρ]
     clear hρ
     go_simp
     exact hK.out _ _ ⟨HVA.out.set (i := 8) (by rw [HVV.out]; rfl), (by simp only [updV_ne (xs := xs) (show (13 : Nat) ≠ 8 by decide), updV_ne (xs := xs) (show (14 : Nat) ≠ 8 by decide)]; exact hA), h16⟩
    focus
     clear hd
     obtain ⟨ρ, hρ⟩ : ∃ ρ, a'.eval = ρ := ⟨_, rfl⟩
     have hcst : ∀ v, ρ (.const v) = v := fun v => (congrFun hρ (.const v)).symm
     have l6 : ρ (.tmp 6) = .int .i64 (k : Int) := (congrFun hρ (.tmp 6)).symm.trans (HF.out.lo 6 rfl)
     rw [if_pos (by simp [Region.wanted])]
     unfold Oper.wp
     rw [hρ]
     clear hρ
     go_simp
     exact hK.out _ _ ⟨HVA.out.set (i := 9) (by rw [HVV.out]; rfl), (by simp only [updV_ne (xs := xs) (show (13 : Nat) ≠ 9 by decide), updV_ne (xs := xs) (show (14 : Nat) ≠ 9 by decide)]; exact hA), h16⟩
    focus
     obtain ⟨d8, d9, _⟩ := hd
     obtain ⟨ρ, hρ⟩ : ∃ ρ, a'.eval = ρ := ⟨_, rfl⟩
     have hcst : ∀ v, ρ (.const v) = v := fun v => (congrFun hρ (.const v)).symm
     have v8 : ρ (.tmp 25) = .slice (some ⟨bw, ow, none⟩) W.length cw := (congrFun hρ (.tmp 25)).symm.trans ((HF.out.ev 8 rfl d8).trans (HVA.out 8 _ (by rw [HVV.out]; rfl) d8))
     have v9 : ρ (.tmp 26) = .int .i64 (k : Int) := (congrFun hρ (.tmp 26)).symm.trans ((HF.out.ev 9 rfl d9).trans (HVA.out 9 _ (by rw [HVV.out]; rfl) d9))
     rw [if_pos (by simp [Region.wanted])]
     unfold Oper.wp
     rw [hρ]
     clear hρ
     go_simp
     exact hK.out _ _ ⟨HVA.out.set (i := 10) (by rw [HVV.out]; rfl), (by simp only [updV_ne (xs := xs) (show (13 : Nat) ≠ 10 by decide), updV_ne (xs := xs) (show (14 : Nat) ≠ 10 by decide)]; exact hA), h16⟩
    focus
     obtain ⟨d10, _⟩ := hd
     obtain ⟨ρ, hρ⟩ : ∃ ρ, a'.eval = ρ := ⟨_, rfl⟩
     have hcst : ∀ v, ρ (.const v) = v := fun v => (congrFun hρ (.const v)).symm
     have v10 : ρ (.tmp 27) = .pointer (some ⟨bw, ow + k, none⟩) := (congrFun hρ (.tmp 27)).symm.trans ((HF.out.ev 10 rfl d10).trans (HVA.out 10 _ (by rw [HVV.out]; rfl) d10))
     obtain ⟨k0, k1⟩ := HKB.out _ hA.hb
     rw [if_pos (by simp [Region.wanted])]
     unfold Oper.wp
     rw [hρ]
     clear hρ
     go_simp
     exact hK.out _ _ ⟨HVA.out.set (i := 11) (by rw [HVV.out]; rfl), (by simp only [updV_ne (xs := xs) (show (13 : Nat) ≠ 11 by decide), updV_ne (xs := xs) (show (14 : Nat) ≠ 11 by decide)]; exact hA), h16⟩
    focus
     obtain ⟨d7, d11, _⟩ := hd
     obtain ⟨ρ, hρ⟩ : ∃ ρ, a'.eval = ρ := ⟨_, rfl⟩
     have hcst : ∀ v, ρ (.const v) = v := fun v => (congrFun hρ (.const v)).symm
     have v7 : ρ (.tmp 24) = .slice ai (lotAt f.lots k).ins.length ci := (congrFun hρ (.tmp 24)).symm.trans ((HF.out.ev 7 rfl d7).trans (HVA.out 7 _ (by rw [HVV.out]; rfl) d7))
     have v11 : ρ (.tmp 28) = .slice ar (rowAt W k).length cr := (congrFun hρ (.tmp 28)).symm.trans ((HF.out.ev 11 rfl d11).trans (HVA.out 11 _ (by rw [HVV.out]; rfl) d11))
     rw [if_pos (by simp [Region.wanted])]
     unfold Oper.wp
     rw [hρ]
     clear hρ
     go_simp
     exact hK.out _ _ ⟨HVA.out.set (i := 12) (by rw [HVV.out]; rfl), (by simp only [updV_ne (xs := xs) (show (13 : Nat) ≠ 12 by decide), updV_ne (xs := xs) (show (14 : Nat) ≠ 12 by decide)]; exact hA), h16⟩
    focus
     obtain ⟨d12, _⟩ := hd
     obtain ⟨ρ, hρ⟩ : ∃ ρ, a'.eval = ρ := ⟨_, rfl⟩
     have hcst : ∀ v, ρ (.const v) = v := fun v => (congrFun hρ (.const v)).symm
     have v12 : ρ (.tmp 29) = .agg #[.slice ai (lotAt f.lots k).ins.length ci, .bool true, .slice ar (rowAt W k).length cr] := (congrFun hρ (.tmp 29)).symm.trans ((HF.out.ev 12 rfl d12).trans (HVA.out 12 _ (by rw [HVV.out]; rfl) d12))
     rw [if_pos (by simp [Region.wanted])]
     unfold Oper.wp
     rw [hρ]
     clear hρ
     go_simp
     exact hK.out _ _ ⟨HVA.out.free (i := 13) (by rw [HVV.out]; rfl) _, (by simp only [updV_ne (xs := xs) (show (14 : Nat) ≠ 13 by decide), updV_self]; exact hA.sb HLI.out _ rfl), h16⟩
    focus
     obtain ⟨d1, d13, _⟩ := hd
     have v1 : a'.eval (.tmp 18) = .slice av nv cv := (HF.out.ev 1 rfl d1).trans (HVA.out 1 _ (by rw [HVV.out]; rfl) d1)
     have v13 : a'.eval (.tmp 30) = xs 13 := HF.out.ev 13 rfl d13
     rw [if_pos (by simp [Region.wanted])]
     obtain ⟨q, e13, q1, q2⟩ := hA.hq d13 HLI.out
     rw [e13] at v13
     have hsrc : SrcLots w.heap.size w' (.slice (some ⟨q, 0, none⟩) 1 1) [⟨(lotAt f.lots k).ins, true, rowAt W k⟩] := srcLots_one (q2.cell 0) (q2.cell 1) (q2.cell 2) (HLX.out _ hA.hb)
     obtain ⟨v5, w5, y1, y2, y3, y4⟩ := run_append_lots (ty := 22) (hA.hv HLI.out) hsrc (by have := HLL.out; simp; omega) (Nat.le_trans hA.hC.2.2 hA.sz)
     refine wp_of_append w' rfl v1 v13 y1 ?_
     exact hK.out _ _ ⟨HVA.out.free (i := 14) (by rw [HVV.out]; rfl) _, (by simp only [updV_ne (xs := xs) (show (13 : Nat) ≠ 14 by decide), updV_self]; exact hA.sa HLI.out d13 y2 y3 y4), (fun e => by have := (h16 e).2; rw [HLI.out] at this; cases this)⟩
    focus
     obtain ⟨d0, d1, d2, d3, d4, d5, d6, d7, d8, d9, d10, d11, d12, d13, d14, _⟩ := hd
     obtain ⟨ρ, hρ⟩ : ∃ ρ, a'.eval = ρ := ⟨_, rfl⟩
     have hcst : ∀ v, ρ (.const v) = v := fun v => (congrFun hρ (.const v)).symm
     have l5 : ρ (.tmp 5) = .pointer (some ⟨w.heap.size + 1 + 1, 0, none⟩) := (congrFun hρ (.tmp 5)).symm.trans (HF.out.lo 5 rfl)
     rw [if_pos (by simp [Region.wanted])]
     unfold Oper.wp
     rw [hρ]
     clear hρ
     go_simp
     exact hK.out _ _ ⟨HVA.out.set (i := 15) (by rw [HVV.out]; rfl), (by simp only [updV_ne (xs := xs) (show (13 : Nat) ≠ 15 by decide), updV_ne (xs := xs) (show (14 : Nat) ≠ 15 by decide)]; exact hA), h16⟩
    focus
     obtain ⟨d15, d14, _, d0, d1, d2, d3, d4, d5, d6, d7, d8, d9, d10, d11, d12, d13, _, _⟩ := hd
     obtain ⟨ρ, hρ⟩ : ∃ ρ, a'.eval = ρ := ⟨_, rfl⟩
     have hcst : ∀ v, ρ (.const v) = v := fun v => (congrFun hρ (.const v)).symm
     have v15 : ρ (.tmp 32) = .pointer (some ⟨w.heap.size + 1 + 1, 1, none⟩) := (congrFun hρ (.tmp 32)).symm.trans ((HF.out.ev 15 rfl d15).trans (HVA.out 15 _ (by rw [HVV.out]; rfl) d15))
     have v14 : ρ (.tmp 31) = xs 14 := (congrFun hρ (.tmp 31)).symm.trans (HF.out.ev 14 rfl d14)
     rw [if_pos (by simp [Region.wanted])]
     unfold Oper.wp
     rw [hρ]
     clear hρ
     obtain ⟨o1, o2, _⟩ := hA.ha d14
     obtain ⟨a8, n8, c8, e8⟩ : ∃ a n c, xs 14 = .slice a n c := by obtain ⟨a, c, e⟩ := o1.form; exact ⟨_, _, _, e⟩
     have HE8 := Lib.hid e8
     rw [e8] at v14
     have hSS := Lib.hid (hA.ss HLI.out d14)
     rw [e8] at hSS
     have fz := (hA.hc HLI.out).free 1
     have m1 := (hA.hc HLI.out).cell 1
     simp at m1
     clear o1 o2 e8
     go_simp
     exact hK.out undef _ ⟨HVA.out.free (i := 16) (by rw [HVV.out]; rfl) _, (by simp only [updV_ne (xs := xs) (show (13 : Nat) ≠ 16 by decide), updV_ne (xs := xs) (show (14 : Nat) ≠ 16 by decide)]; rw [HE8.out]; exact hSS.out), (fun _ => ⟨d1, d14⟩)⟩
   focus
    intro L w' xs hL hJ
    obtain ⟨hv, hA, h16⟩ := hJ
    have e0 : xs 0 = .pointer (some ⟨w.heap.size + 1 + 1, 1, none⟩) := hv 0 _ (by rw [HVV.out]; rfl) (hL 0 (by decide))
    have e1 : xs 1 = .slice av nv cv := hv 1 _ (by rw [HVV.out]; rfl) (hL 1 (by decide))
    have e2 : xs 2 = .pointer (some ⟨w.heap.size, 1, none⟩) := hv 2 _ (by rw [HVV.out]; rfl) (hL 2 (by decide))
    have e3 : xs 3 = .slice (some ⟨b, off, none⟩) f.lots.length cap := hv 3 _ (by rw [HVV.out]; rfl) (hL 3 (by decide))
    have e4 : xs 4 = .int .i64 (k : Int) := hv 4 _ (by rw [HVV.out]; rfl) (hL 4 (by decide))
    have e5 : xs 5 = .pointer (some ⟨b, off + k * 3, none⟩) := hv 5 _ (by rw [HVV.out]; rfl) (hL 5 (by decide))
    have e6 : xs 6 = .pointer (some ⟨b, off + k * 3, none⟩) := hv 6 _ (by rw [HVV.out]; rfl) (hL 6 (by decide))
    have e7 : xs 7 = .slice ai (lotAt f.lots k).ins.length ci := hv 7 _ (by rw [HVV.out]; rfl) (hL 7 (by decide))
    have e8 : xs 8 = .slice (some ⟨bw, ow, none⟩) W.length cw := hv 8 _ (by rw [HVV.out]; rfl) (hL 8 (by decide))
    have e9 : xs 9 = .int .i64 (k : Int) := hv 9 _ (by rw [HVV.out]; rfl) (hL 9 (by decide))
    have e10 : xs 10 = .pointer (some ⟨bw, ow + k, none⟩) := hv 10 _ (by rw [HVV.out]; rfl) (hL 10 (by decide))
    have e11 : xs 11 = .slice ar (rowAt W k).length cr := hv 11 _ (by rw [HVV.out]; rfl) (hL 11 (by decide))
    have e12 : xs 12 = .agg #[.slice ai (lotAt f.lots k).ins.length ci, .bool true, .slice ar (rowAt W k).length cr] := hv 12 _ (by rw [HVV.out]; rfl) (hL 12 (by decide))
    have e15 : xs 15 = .pointer (some ⟨w.heap.size + 1 + 1, 1, none⟩) := hv 15 _ (by rw [HVV.out]; rfl) (hL 15 (by decide))
    simp only [putGo, Act.put, List.setIfInBounds_toArray, List.set_cons_zero, List.set_cons_succ, e0, e1, e2, e3, e4, e5, e6, e7, e8, e9, e10, e11, e12, e15]
    clear hv e0 e1 e2 e3 e4 e5 e6 e7 e8 e9 e10 e11 e12 e15
    obtain ⟨W5, rfl⟩ : ∃ W', W' = w' := ⟨_, rfl⟩
    have hX := (h16 (hL 16 (by decide))).2
    have hX16 := hL 16 (by decide)
    have HAP := Lib.hid hA
    clear h16 hA hL
    go_wp2
    go_roundw
    case rel =>
     have hz0 : w.heap.size < WA.heap.size := z0
     obtain ⟨o1, o2, o3⟩ := HAP.out.ha hX
     refine ⟨k + 1, xs 14, by omega, by go_num, by rw [HLS.out]; exact o1, fun e => ?_, fun e => ?_, o2, ⟨Nat.lt_of_lt_of_le z0 HAP.out.sz, fun i => (HAP.out.cell z0 (by omega) n0).trans (HY0.out.2 i)⟩, ?_, HAP.out.he hX16, HAP.out.hb⟩
     ·rcases o3 with o3 | ⟨q, o3, hq⟩
      ·rw [o3] at e; exact n0 e
      ·rw [o3] at e; simp at e; omega
     ·have hy := HY1.out.lt
      rcases o3 with o3 | ⟨q, o3, hq⟩
      ·rw [o3] at e; exact n1 e
      ·rw [o3] at e; simp at e; omega
     ·obtain ⟨ty, hy⟩ := HY1.out
      exact ⟨ty, (HAP.out.ho _ HY1.out.lt (by omega) n1).trans hy⟩
    case measure => simp [intOf]; omega
  ·obtain rfl : k = f.lots.length := by omega
   obtain ⟨av, cv, rfl⟩ := hv.form
   have y0 := HY2.out.cell 0
   have y1 := HY2.out.cell 1
   simp at y0 y1
   have f0 := HY1.out.free 0
   have f1 := HY1.out.free 1
   have hz := HY1.out.lt
   have c10 := HY1.out.cell 0
   have c11 := HY1.out.cell 1
   simp at c10 c11
   have u0 := ((HY1.out.set 0 (.int .i64 f.senders)).set 1 (.slice av (alongL f W f.lots.length).length cv)).cell 0
   have u1 := ((HY1.out.set 0 (.int .i64 f.senders)).set 1 (.slice av (alongL f W f.lots.length).length cv)).cell 1
   simp at u0 u1
   have HR : Hid (OwnLots w.heap.size ((wr.setCell ⟨w.heap.size + 1, 0, none⟩ (.int .i64 f.senders)).setCell ⟨w.heap.size + 1, 1, none⟩ (.slice av (alongL f W f.lots.length).length cv)) (.slice av (alongL f W f.lots.length).length cv) (alongL f W f.lots.length)) :=
    Lib.hid ((HV.out.setX HBR.out.size (by omega) n1 0 _).setX (by simpa [World.setCell] using HBR.out.size) (by omega) n1 1 _)
   have HBE : Hid (Below w.heap.size w ((wr.setCell ⟨w.heap.size + 1, 0, none⟩ (.int .i64 f.senders)).setCell ⟨w.heap.size + 1, 1, none⟩ (.slice av (alongL f W f.lots.length).length cv))) :=
    Lib.hid ((HBR.out.setCell (p := ⟨w.heap.size + 1, 0, none⟩) (by show w.heap.size ≤ w.heap.size + 1; omega) _).setCell (p := ⟨w.heap.size + 1, 1, none⟩) (by show w.heap.size ≤ w.heap.size + 1; omega) _)
   clear x1 x2 hv
   go_wp2
   exact bodyPost_ret (v := .agg #[.int .i64 f.senders, .slice av (alongL f W f.lots.length).length cv]) (by simp [results, Try.results24, go_sem, u0, u1]) rfl ⟨_, rfl, HR.out.isLots HBE.out.size, HBE.out⟩
end Go.Proofs.Yteiaeaciaglmgaa
set_option linter.unusedVariables false
set_option linter.unusedSimpArgs false
namespace Go.Proofs.Yteiaeaciaglmgaa
open Go.RowKit
theorem inLot_next {f : Flow} {k : Nat} (hn : (lotAt f.lots k).ins.Nodup) {i : Nat} (hi : i < (lotAt f.lots k).ins.length) (s : Nat) :
  inLot f k (i + 1) s = if nth (lotAt f.lots k).ins i = spotAt f (s : Int) k then beforeI f k + nth (lotAt f.lots k).perm i else inLot f k i s := by
 by_cases e : nth (lotAt f.lots k).ins i = spotAt f (s : Int) k
 ·rw [if_pos e]
  unfold inLot mvI
  rw [← e, (idx_take hn (show i < i + 1 by omega) (by omega)).2, if_pos rfl, (idx_take hn (show i < i + 1 by omega) (by omega)).1]
 ·rw [if_neg e]
  unfold inLot mvI
  have h1 : hasB ((lotAt f.lots k).ins.take (i + 1)) (spotAt f (s : Int) k) = hasB ((lotAt f.lots k).ins.take i) (spotAt f (s : Int) k) := by
   rw [Bool.eq_iff_iff, hasB_mem, hasB_mem, List.take_succ_eq_append_getElem hi, List.mem_append, List.mem_singleton, ← nth_lt hi]
   constructor
   ·rintro (h | h)
    ·exact h
    ·exact absurd h.symm e
   ·exact .inl
  rw [h1]
  by_cases hh : hasB ((lotAt f.lots k).ins.take i) (spotAt f (s : Int) k) = true
  ·rw [if_pos hh, if_pos hh]
   have h2 := take_idx hn (show i ≤ _ by omega) hh
   have h3 := take_idx hn (show i + 1 ≤ _ by omega) (h1.trans hh)
   rw [h2.2.1, h3.2.1]
  ·rw [if_neg hh, if_neg hh]
set_option maxHeartbeats 4000000 in
set_option maxRecDepth 100000 in
/-- frankingref25.Follow -/
theorem follow25_any (B : Nat) (w : World) (vs vl : Value) (f : Flow) (s : Nat) (hf : IsFlow B w vs vl f) (hB : B ≤ w.heap.size) (hck : checkE f = 0) (hkn : ∀ j, j < f.lots.length → (lotAt f.lots j).known = true) (hs : (s : Int) < f.senders) :
  Calls Try.prog 83 #[.agg #[vs, vl], .int .i64 (s : Int)] w fun e w' => e = .returned (.int .i64 (spotAt f (s : Int) f.lots.length)) ∧ Below w.heap.size w w' := by
 have HF := Lib.hid hf
 have HCK := Lib.hid hck
 have HKN := Lib.hid hkn
 obtain ⟨h0, h64, h2000, h50, hlots⟩ := checkE_ok hck
 have HLT := Lib.hid hlots
 have HBB : Hid (∀ k, k ≤ f.lots.length → 0 ≤ beforeI f k ∧ beforeI f k ≤ 50000) := Lib.hid fun k hk => before_bd hck hk
 have HSP : Hid (∀ k, k ≤ f.lots.length → 0 ≤ spotAt f (s : Int) k ∧ spotAt f (s : Int) k ≤ 50000) := Lib.hid fun k hk => by
  obtain ⟨p, p1, p2, p3⟩ := spot_asg h0 (lotsB_le hlots hk) (fun j hj => hkn j (by omega))
  rw [← p3 s (by omega)]
  have h1 := (p2.2 _).1 (nth_mem' (l := p) (i := s) (by omega))
  have h2 := before_bd hck hk
  omega
 have HS := Lib.hid hs
 obtain ⟨rfl, ⟨hs1, hs2⟩, hl⟩ := hf
 obtain ⟨b, off, cap, ⟨a, rfl, hcap, hmax, ha⟩, hlen, hc⟩ := hl
 have HC := Lib.hid hc
 have HA := Lib.hid ha
 have hs64 : (s : Int) ≤ 64 := by omega
 clear hc ha hlots hck hkn h50
 go_enter Try.func83, Try.ntmps83
 go_wp2
 refine wp_name (fun W1 hW1 => ?_)
 have HX1 : Hid (Box W1 w.heap.size #[.int .i64 f.senders, .slice a f.lots.length cap]) := Lib.hid (by rw [hW1]; exact Box.new w #[.int .i64 f.senders, .slice a f.lots.length cap] 24)
 have HW1 : Hid (Below w.heap.size w W1) := Lib.hid (by rw [hW1]; exact box_below' w _)
 clear hW1
 go_loopw [1, 5] (fun v i wr => ∃ k : Nat, k ≤ f.lots.length ∧ i = .int .i64 k ∧ v = .int .i64 (spotAt f (s : Int) k) ∧ Box wr w.heap.size #[.int .i64 f.senders, .slice a f.lots.length cap] ∧ Below w.heap.size w wr) (fun _ i _ => f.lots.length - (intOf i).toNat)
 case atStart => exact ⟨0, by omega, rfl, rfl, HX1.out, HW1.out⟩
 case round =>
  obtain ⟨k, hk, rfl, rfl, hbx, hbr⟩ := hrel
  have HX := Lib.hid hbx
  have HBR := Lib.hid hbr
  obtain ⟨z1, r1⟩ := hbx
  clear hbr HX1 HW1
  by_cases hlt : k < f.lots.length
  ·obtain rfl : a = some ⟨b, off, none⟩ := by rcases HA.out with h | h; exact h; omega
   obtain ⟨vi, vk, vp, q1, _, q3, hli, _, hlp⟩ := HC.out k hlt
   obtain ⟨bi, oi, ci, ⟨ai, rfl, hci1, hci2, hai⟩, hil, hiz, hic⟩ := hli
   obtain ⟨bp, op, cp, ⟨ap, rfl, hcp1, hcp2, hap⟩, hpl, hpz, hpc⟩ := hlp
   have hbk := lotsB_lot HLT.out hlt
   have hnd := (lotB_parts hbk).2.1
   have HPA := Lib.hid (fun i (hi : i < (lotAt f.lots k).ins.length) => perm_at hbk (fun j hj => HKN.out j (by omega)) hi)
   have HNX := Lib.hid (fun i (hi : i < (lotAt f.lots k).ins.length) => inLot_next (f := f) hnd hi s)
   have HZ := Lib.hid (inLot_zero f k s)
   have HEN := Lib.hid (inLot_end f k s)
   have HIC := Lib.hid hic
   have HPC := Lib.hid hpc
   have HAI := Lib.hid hai
   have HAP := Lib.hid hap
   have HKB : Hid (∀ W, Below w.heap.size w W → W.cell? ⟨b, off + k * 3, none⟩ = some (.slice ai (lotAt f.lots k).ins.length ci) ∧ W.cell? ⟨b, off + k * 3 + 2, none⟩ = some (.slice ap (lotAt f.lots k).perm.length cp)) := Lib.hid fun W hW => ⟨(q1.below hW hB).2, (q3.below hW hB).2⟩
   obtain ⟨x0, x1⟩ := HKB.out _ HBR.out
   have hS0 := HSP.out k hk
   have hB0 := HBB.out k hk
   have hB1 := HBB.out (k + 1) (by omega)
   have hB2 : beforeI f (k + 1) = beforeI f k + (lotAt f.lots k).ins.length := rfl
   rw [hB2] at hB1
   have HIB : Hid (∀ i, i ≤ (lotAt f.lots k).ins.length → 0 ≤ inLot f k i s ∧ inLot f k i s ≤ 200000) := Lib.hid fun i => by
    induction i with
    | zero => intro _; rw [inLot_zero]; omega
    | succ i ih =>
     intro hi
     rw [HNX.out i (by omega)]
     have := (HPA.out i (by omega))
     split
     ·omega
     ·exact ih (by omega)
   obtain ⟨S, hS⟩ : ∃ S, spotAt f (s : Int) k = S := ⟨_, rfl⟩
   rw [hS] at HNX HZ hS0 ⊢
   clear hS hic hpc hai hap hiz hpz hbk hnd hB2 q1 q3
   go_wp2
   obtain ⟨WA, rfl⟩ : ∃ W, W = wr := ⟨_, rfl⟩
   go_loopw [1, 7] (fun v i wr => ∃ q : Nat, q ≤ (lotAt f.lots k).ins.length ∧ i = .int .i64 q ∧ v = .int .i64 (inLot f k q s) ∧ Below WA.heap.size WA wr) (fun _ i _ => (lotAt f.lots k).ins.length - (intOf i).toNat)
   case atStart => exact ⟨0, by omega, rfl, by rw [HZ.out], Below.refl _ _⟩
   case round =>
    obtain ⟨q, hq, rfl, rfl, hbq⟩ := hrel
    have HBQ := Lib.hid hbq
    have HBQ2 : Hid (Below w.heap.size w wr) := Lib.hid (HBR.out.trans (hbq.mono HBR.out.size))
    have HXQ := Lib.hid (HX.out.ext hbq)
    obtain ⟨z2, r2⟩ := HXQ.out
    clear hbq x0 x1 r1 z1
    by_cases hlq : q < (lotAt f.lots k).ins.length
    ·obtain rfl : ai = some ⟨bi, oi, none⟩ := by rcases HAI.out with h | h; exact h; omega
     obtain ⟨x0, x1⟩ := HKB.out _ HBQ2.out
     have hcq := (HBQ2.out.cell (p := ⟨bi, oi + q, none⟩) (by have := (HIC.out q hlq).1; show bi < _; omega)).trans (HIC.out q hlq).2
     have hnx := HNX.out q hlq
     obtain ⟨g1, g2, g3, _⟩ := HPA.out q hlq
     have hqp : q < (lotAt f.lots k).perm.length := by omega
     clear g3
     by_cases he : nth (lotAt f.lots k).ins q = S
     ·obtain rfl : ap = some ⟨bp, op, none⟩ := by rcases HAP.out with h | h; exact h; omega
      have he' : (nth (lotAt f.lots k).ins q == S) = true := beq_iff_eq.2 he
      have HN2 : Hid (inLot f k (q + 1) s = beforeI f k + nth (lotAt f.lots k).perm q) := Lib.hid (by rw [hnx, if_pos he])
      have HPQ : Hid (∀ W, Below wr.heap.size wr W → W.cell? ⟨b, off + k * 3 + 2, none⟩ = some (.slice (some ⟨bp, op, none⟩) (lotAt f.lots k).perm.length cp) ∧ W.cell? ⟨bp, op + q, none⟩ = some (.int .i64 (nth (lotAt f.lots k).perm q)) ∧ W.cell? ⟨w.heap.size, 0, none⟩ = some (.int .i64 f.senders) ∧ W.cell? ⟨w.heap.size, 1, none⟩ = some (.slice (some ⟨b, off, none⟩) f.lots.length cap)) := Lib.hid fun W hW => by
       have hWW := HBQ2.out.trans (hW.mono HBQ2.out.size)
       refine ⟨(HKB.out _ hWW).2, (hWW.cell (p := ⟨bp, op + q, none⟩) (by have := (HPC.out q hqp).1; show bp < _; omega)).trans (HPC.out q hqp).2, (HXQ.out.ext hW).2 0, (HXQ.out.ext hW).2 1⟩
      have HBF : Hid (∀ W, Below wr.heap.size wr W → Calls Try.prog 48 #[.agg #[.int .i64 f.senders, .slice (some ⟨b, off, none⟩) f.lots.length cap], .int .i64 (k : Int)] W fun e w' => e = .returned (.int .i64 (beforeI f k)) ∧ Below W.heap.size W w') := Lib.hid fun W hW => by
       have hWW := HBQ2.out.trans (hW.mono HBQ2.out.size)
       exact before_any B W _ _ f k (HF.out.below hWW hB) (Nat.le_trans hB hWW.size) (by omega) (by omega) (by omega)
      clear hnx he
      obtain ⟨bv, hbv⟩ : ∃ x, beforeI f k = x := ⟨_, rfl⟩
      obtain ⟨pv, hpv⟩ : ∃ x, nth (lotAt f.lots k).perm q = x := ⟨_, rfl⟩
      rw [hbv] at HBF HN2 hB0 hB1
      rw [hpv] at HPQ HN2 g1 g2
      clear hbv hpv
      have HSUM : Hid (IntKind.i64.wrap (bv + pv) = bv + pv) := Lib.hid (by rw [IntWalk.i64_in _ (by omega)])
      obtain ⟨WB, rfl⟩ : ∃ W, W = wr := ⟨_, rfl⟩
      go_upto_region 9 with fail
      obtain ⟨V, hV⟩ : ∃ V : List (Option Value), V = [some (.agg #[.int .i64 f.senders, .slice (some ⟨b, off, none⟩) f.lots.length cap]), some (.int .i64 (k : Int)), some (.int .i64 bv), some (.pointer (some ⟨w.heap.size, 1, none⟩)), some (.slice (some ⟨b, off, none⟩) f.lots.length cap), some (.int .i64 (k : Int)), some (.pointer (some ⟨b, off + k * 3, none⟩)), some (.pointer (some ⟨b, off + k * 3 + 2, none⟩)), some (.slice (some ⟨bp, op, none⟩) (lotAt f.lots k).perm.length cp), some (.int .i64 (q : Int)), some (.pointer (some ⟨bp, op + q, none⟩)), some (.int .i64 pv), some (.int .i64 (bv + pv)), some (.int .i64 (bv + pv))] := ⟨_, rfl⟩
      have HVV := Lib.hid hV
      clear hV
      refine wp_region_V [some 38, some 39, some 40, some 41, some 42, some 43, some 44, some 45, some 46, some 47, some 48, some 49, some 50, some 1] (fun L w' xs => ValsAt V L xs ∧ (Below WB.heap.size WB w')) (by kernel_rfl) (by kernel_rfl) (by rfl) (by rfl) (by rfl) ?_ ?_ ?_
      focus
       exact fun xs => ⟨ValsAt.none _ _, (Below.refl _ _).drew⟩
      focus
       refine ⟨?_, ?_, ?_, ?_, ?_, ?_, ?_, ?_, ?_, ?_, ?_, ?_, ?_, ?_, trivial⟩
       all_goals
        intro L a' w' xs hi hd hf hJ K hK
        obtain ⟨hv, hb⟩ := hJ
        have HF := Lib.hid hf
        have HVA := Lib.hid hv
        have HLI := Lib.hid hi
        clear hf hv hi
       focus
        clear hd
        obtain ⟨ρ, hρ⟩ : ∃ ρ, a'.eval = ρ := ⟨_, rfl⟩
        have hcst : ∀ v, ρ (.const v) = v := fun v => (congrFun hρ (.const v)).symm
        have l2 : ρ (.tmp 2) = .pointer (some ⟨w.heap.size, 0, none⟩) := (congrFun hρ (.tmp 2)).symm.trans (HF.out.lo 2 rfl)
        obtain ⟨k0, k1, k2, k3⟩ := HPQ.out _ hb
        rw [if_pos (by simp [Region.wanted])]
        unfold Oper.wp
        rw [hρ]
        clear hρ
        go_simp
        exact hK.out _ _ ⟨HVA.out.set (i := 0) (by rw [HVV.out]; rfl), hb⟩
       focus
        clear hd
        obtain ⟨ρ, hρ⟩ : ∃ ρ, a'.eval = ρ := ⟨_, rfl⟩
        have hcst : ∀ v, ρ (.const v) = v := fun v => (congrFun hρ (.const v)).symm
        have l5 : ρ (.tmp 5) = .int .i64 (k : Int) := (congrFun hρ (.tmp 5)).symm.trans (HF.out.lo 5 rfl)
        rw [if_pos (by simp [Region.wanted])]
        unfold Oper.wp
        rw [hρ]
        clear hρ
        go_simp
        exact hK.out _ _ ⟨HVA.out.set (i := 1) (by rw [HVV.out]; rfl), hb⟩
       focus
        obtain ⟨d0, d1, _⟩ := hd
        obtain ⟨ρ, hρ⟩ : ∃ ρ, a'.eval = ρ := ⟨_, rfl⟩
        have hcst : ∀ v, ρ (.const v) = v := fun v => (congrFun hρ (.const v)).symm
        have hfun : ∀ k, ρ (.func k) = .func (.func k) #[] #[] := fun k => (congrFun hρ (.func k)).symm
        have v0 : ρ (.tmp 38) = .agg #[.int .i64 f.senders, .slice (some ⟨b, off, none⟩) f.lots.length cap] := (congrFun hρ (.tmp 38)).symm.trans ((HF.out.ev 0 rfl d0).trans (HVA.out 0 _ (by rw [HVV.out]; rfl) d0))
        have v1 : ρ (.tmp 39) = .int .i64 (k : Int) := (congrFun hρ (.tmp 39)).symm.trans ((HF.out.ev 1 rfl d1).trans (HVA.out 1 _ (by rw [HVV.out]; rfl) d1))
        rw [if_pos (by simp [Region.wanted])]
        unfold Oper.wp
        rw [hρ]
        clear hρ
        go_simp
        go_at_call 48
        refine (HBF.out _ hb).mono ?_
        rintro e w5' ⟨rfl, hb5⟩
        exact hK.out _ _ ⟨HVA.out.set (i := 2) (by rw [HVV.out]; rfl), hb.trans (hb5.mono hb.size)⟩
       focus
        clear hd
        obtain ⟨ρ, hρ⟩ : ∃ ρ, a'.eval = ρ := ⟨_, rfl⟩
        have hcst : ∀ v, ρ (.const v) = v := fun v => (congrFun hρ (.const v)).symm
        have l2 : ρ (.tmp 2) = .pointer (some ⟨w.heap.size, 0, none⟩) := (congrFun hρ (.tmp 2)).symm.trans (HF.out.lo 2 rfl)
        rw [if_pos (by simp [Region.wanted])]
        unfold Oper.wp
        rw [hρ]
        clear hρ
        go_simp
        exact hK.out _ _ ⟨HVA.out.set (i := 3) (by rw [HVV.out]; rfl), hb⟩
       focus
        obtain ⟨d3, _⟩ := hd
        obtain ⟨ρ, hρ⟩ : ∃ ρ, a'.eval = ρ := ⟨_, rfl⟩
        have hcst : ∀ v, ρ (.const v) = v := fun v => (congrFun hρ (.const v)).symm
        have v3 : ρ (.tmp 41) = .pointer (some ⟨w.heap.size, 1, none⟩) := (congrFun hρ (.tmp 41)).symm.trans ((HF.out.ev 3 rfl d3).trans (HVA.out 3 _ (by rw [HVV.out]; rfl) d3))
        obtain ⟨k0, k1, k2, k3⟩ := HPQ.out _ hb
        rw [if_pos (by simp [Region.wanted])]
        unfold Oper.wp
        rw [hρ]
        clear hρ
        go_simp
        exact hK.out _ _ ⟨HVA.out.set (i := 4) (by rw [HVV.out]; rfl), hb⟩
       focus
        clear hd
        obtain ⟨ρ, hρ⟩ : ∃ ρ, a'.eval = ρ := ⟨_, rfl⟩
        have hcst : ∀ v, ρ (.const v) = v := fun v => (congrFun hρ (.const v)).symm
        have l5 : ρ (.tmp 5) = .int .i64 (k : Int) := (congrFun hρ (.tmp 5)).symm.trans (HF.out.lo 5 rfl)
        rw [if_pos (by simp [Region.wanted])]
        unfold Oper.wp
        rw [hρ]
        clear hρ
        go_simp
        exact hK.out _ _ ⟨HVA.out.set (i := 5) (by rw [HVV.out]; rfl), hb⟩
       focus
        obtain ⟨d4, d5, _⟩ := hd
        obtain ⟨ρ, hρ⟩ : ∃ ρ, a'.eval = ρ := ⟨_, rfl⟩
        have hcst : ∀ v, ρ (.const v) = v := fun v => (congrFun hρ (.const v)).symm
        have v4 : ρ (.tmp 42) = .slice (some ⟨b, off, none⟩) f.lots.length cap := (congrFun hρ (.tmp 42)).symm.trans ((HF.out.ev 4 rfl d4).trans (HVA.out 4 _ (by rw [HVV.out]; rfl) d4))
        have v5 : ρ (.tmp 43) = .int .i64 (k : Int) := (congrFun hρ (.tmp 43)).symm.trans ((HF.out.ev 5 rfl d5).trans (HVA.out 5 _ (by rw [HVV.out]; rfl) d5))
        rw [if_pos (by simp [Region.wanted])]
        unfold Oper.wp
        rw [hρ]
        clear hρ
        go_simp
        exact hK.out _ _ ⟨HVA.out.set (i := 6) (by rw [HVV.out]; rfl), hb⟩
       focus
        obtain ⟨d6, _⟩ := hd
        obtain ⟨ρ, hρ⟩ : ∃ ρ, a'.eval = ρ := ⟨_, rfl⟩
        have hcst : ∀ v, ρ (.const v) = v := fun v => (congrFun hρ (.const v)).symm
        have v6 : ρ (.tmp 44) = .pointer (some ⟨b, off + k * 3, none⟩) := (congrFun hρ (.tmp 44)).symm.trans ((HF.out.ev 6 rfl d6).trans (HVA.out 6 _ (by rw [HVV.out]; rfl) d6))
        rw [if_pos (by simp [Region.wanted])]
        unfold Oper.wp
        rw [hρ]
        clear hρ
        go_simp
        exact hK.out _ _ ⟨HVA.out.set (i := 7) (by rw [HVV.out]; rfl), hb⟩
       focus
        obtain ⟨d7, _⟩ := hd
        obtain ⟨ρ, hρ⟩ : ∃ ρ, a'.eval = ρ := ⟨_, rfl⟩
        have hcst : ∀ v, ρ (.const v) = v := fun v => (congrFun hρ (.const v)).symm
        have v7 : ρ (.tmp 45) = .pointer (some ⟨b, off + k * 3 + 2, none⟩) := (congrFun hρ (.tmp 45)).symm.trans ((HF.out.ev 7 rfl d7).trans (HVA.out 7 _ (by rw [HVV.out]; rfl) d7))
        obtain ⟨k0, k1, k2, k3⟩ := HPQ.out _ hb
        rw [if_pos (by simp [Region.wanted])]
        unfold Oper.wp
        rw [hρ]
        clear hρ
        go_simp
        exact hK.out _ _ ⟨HVA.out.set (i := 8) (by rw [HVV.out]; rfl), hb⟩
       focus
        clear hd
        obtain ⟨ρ, hρ⟩ : ∃ ρ, a'.eval = ρ := ⟨_, rfl⟩
        have hcst : ∀ v, ρ (.const v) = v := fun v => (congrFun hρ (.const v)).symm
        have l7 : ρ (.tmp 7) = .int .i64 (q : Int) := (congrFun hρ (.tmp 7)).symm.trans (HF.out.lo 7 rfl)
        rw [if_pos (by simp [Region.wanted])]
        unfold Oper.wp
        rw [hρ]
        clear hρ
        go_simp
        exact hK.out _ _ ⟨HVA.out.set (i := 9) (by rw [HVV.out]; rfl), hb⟩
       focus
        obtain ⟨d8, d9, _⟩ := hd
        obtain ⟨ρ, hρ⟩ : ∃ ρ, a'.eval = ρ := ⟨_, rfl⟩
        have hcst : ∀ v, ρ (.const v) = v := fun v => (congrFun hρ (.const v)).symm
        have v8 : ρ (.tmp 46) = .slice (some ⟨bp, op, none⟩) (lotAt f.lots k).perm.length cp := (congrFun hρ (.tmp 46)).symm.trans ((HF.out.ev 8 rfl d8).trans (HVA.out 8 _ (by rw [HVV.out]; rfl) d8))
        have v9 : ρ (.tmp 47) = .int .i64 (q : Int) := (congrFun hρ (.tmp 47)).symm.trans ((HF.out.ev 9 rfl d9).trans (HVA.out 9 _ (by rw [HVV.out]; rfl) d9))
        rw [if_pos (by simp [Region.wanted])]
        unfold Oper.wp
        rw [hρ]
        clear hρ
        go_simp
        exact hK.out _ _ ⟨HVA.out.set (i := 10) (by rw [HVV.out]; rfl), hb⟩
       focus
        obtain ⟨d10, _⟩ := hd
        obtain ⟨ρ, hρ⟩ : ∃ ρ, a'.eval = ρ := ⟨_, rfl⟩
        have hcst : ∀ v, ρ (.const v) = v := fun v => (congrFun hρ (.const v)).symm
        have v10 : ρ (.tmp 48) = .pointer (some ⟨bp, op + q, none⟩) := (congrFun hρ (.tmp 48)).symm.trans ((HF.out.ev 10 rfl d10).trans (HVA.out 10 _ (by rw [HVV.out]; rfl) d10))
        obtain ⟨k0, k1, k2, k3⟩ := HPQ.out _ hb
        rw [if_pos (by simp [Region.wanted])]
        unfold Oper.wp
        rw [hρ]
        clear hρ
        go_simp
        exact hK.out _ _ ⟨HVA.out.set (i := 11) (by rw [HVV.out]; rfl), hb⟩
       focus
        obtain ⟨d2, d11, _⟩ := hd
        obtain ⟨ρ, hρ⟩ : ∃ ρ, a'.eval = ρ := ⟨_, rfl⟩
        have hcst : ∀ v, ρ (.const v) = v := fun v => (congrFun hρ (.const v)).symm
        have v2 : ρ (.tmp 40) = .int .i64 bv := (congrFun hρ (.tmp 40)).symm.trans ((HF.out.ev 2 rfl d2).trans (HVA.out 2 _ (by rw [HVV.out]; rfl) d2))
        have v11 : ρ (.tmp 49) = .int .i64 pv := (congrFun hρ (.tmp 49)).symm.trans ((HF.out.ev 11 rfl d11).trans (HVA.out 11 _ (by rw [HVV.out]; rfl) d11))
        have hsum := HSUM.out
        rw [if_pos (by simp [Region.wanted])]
        unfold Oper.wp
        rw [hρ]
        clear hρ
        go_simp
        exact hK.out _ _ ⟨HVA.out.set (i := 12) (by rw [HVV.out]; rfl), hb⟩
       focus
        obtain ⟨d12, d2, d0, d1, _, d3, d4, d5, d6, d7, d8, d9, d10, d11, _, _⟩ := hd
        obtain ⟨ρ, hρ⟩ : ∃ ρ, a'.eval = ρ := ⟨_, rfl⟩
        have hcst : ∀ v, ρ (.const v) = v := fun v => (congrFun hρ (.const v)).symm
        have v12 : ρ (.tmp 50) = .int .i64 (bv + pv) := (congrFun hρ (.tmp 50)).symm.trans ((HF.out.ev 12 rfl d12).trans (HVA.out 12 _ (by rw [HVV.out]; rfl) d12))
        rw [if_pos (by simp [Region.wanted])]
        unfold Oper.wp
        rw [hρ]
        clear hρ
        go_simp
        exact hK.out _ _ ⟨HVA.out.set (i := 13) (by rw [HVV.out]; rfl), hb⟩
      focus
       intro L w' xs hL hJ
       obtain ⟨hv, hb⟩ := hJ
       have e0 : xs 0 = .agg #[.int .i64 f.senders, .slice (some ⟨b, off, none⟩) f.lots.length cap] := hv 0 _ (by rw [HVV.out]; rfl) (hL 0 (by decide))
       have e1 : xs 1 = .int .i64 (k : Int) := hv 1 _ (by rw [HVV.out]; rfl) (hL 1 (by decide))
       have e2 : xs 2 = .int .i64 bv := hv 2 _ (by rw [HVV.out]; rfl) (hL 2 (by decide))
       have e3 : xs 3 = .pointer (some ⟨w.heap.size, 1, none⟩) := hv 3 _ (by rw [HVV.out]; rfl) (hL 3 (by decide))
       have e4 : xs 4 = .slice (some ⟨b, off, none⟩) f.lots.length cap := hv 4 _ (by rw [HVV.out]; rfl) (hL 4 (by decide))
       have e5 : xs 5 = .int .i64 (k : Int) := hv 5 _ (by rw [HVV.out]; rfl) (hL 5 (by decide))
       have e6 : xs 6 = .pointer (some ⟨b, off + k * 3, none⟩) := hv 6 _ (by rw [HVV.out]; rfl) (hL 6 (by decide))
       have e7 : xs 7 = .pointer (some ⟨b, off + k * 3 + 2, none⟩) := hv 7 _ (by rw [HVV.out]; rfl) (hL 7 (by decide))
       have e8 : xs 8 = .slice (some ⟨bp, op, none⟩) (lotAt f.lots k).perm.length cp := hv 8 _ (by rw [HVV.out]; rfl) (hL 8 (by decide))
       have e9 : xs 9 = .int .i64 (q : Int) := hv 9 _ (by rw [HVV.out]; rfl) (hL 9 (by decide))
       have e10 : xs 10 = .pointer (some ⟨bp, op + q, none⟩) := hv 10 _ (by rw [HVV.out]; rfl) (hL 10 (by decide))
       have e11 : xs 11 = .int .i64 pv := hv 11 _ (by rw [HVV.out]; rfl) (hL 11 (by decide))
       have e12 : xs 12 = .int .i64 (bv + pv) := hv 12 _ (by rw [HVV.out]; rfl) (hL 12 (by decide))
       have e13 : xs 13 = .int .i64 (bv + pv) := hv 13 _ (by rw [HVV.out]; rfl) (hL 13 (by decide))
       simp only [putGo, Act.put, List.setIfInBounds_toArray, List.set_cons_zero, List.set_cons_succ, e0, e1, e2, e3, e4, e5, e6, e7, e8, e9, e10, e11, e12, e13]
       clear hv e0 e1 e2 e3 e4 e5 e6 e7 e8 e9 e10 e11 e12 e13
       obtain ⟨WC, rfl⟩ : ∃ W, W = w' := ⟨_, rfl⟩
       have HBC := Lib.hid (HBQ.out.trans (hb.mono HBQ.out.size))
       clear hb hL
       go_wp2
       go_roundw
       case rel => exact ⟨q + 1, by omega, by go_num, by rw [HN2.out], HBC.out⟩
       case measure => simp [intOf]; omega
     ·have he' : (nth (lotAt f.lots k).ins q == S) = false := beq_eq_false_iff_ne.2 he
      have HN2 : Hid (inLot f k (q + 1) s = inLot f k q s) := Lib.hid (by rw [hnx, if_neg he])
      have hib := HIB.out q hq
      clear hnx he
      go_wp2
      go_roundw
      case rel => exact ⟨q + 1, by omega, by go_num, by rw [HN2.out], HBQ.out⟩
      case measure => simp [intOf]; omega
    ·obtain rfl : q = (lotAt f.lots k).ins.length := by omega
     obtain ⟨x0, x1⟩ := HKB.out _ HBQ2.out
     go_wp2
     go_roundw
     case rel => exact ⟨k + 1, by omega, by go_num, by rw [HEN.out], HXQ.out, HBQ2.out⟩
     case measure => simp [intOf]; omega
  ·obtain rfl : k = f.lots.length := by omega
   go_wp2
   go_ret
   exact ⟨rfl, HBR.out⟩
end Go.Proofs.Yteiaeaciaglmgaa
set_option linter.unusedVariables false
set_option linter.unusedSimpArgs false
namespace Go.Proofs.Yteiaeaciaglmgaa
open Go.RowKit
def mapTo (f : Flow) (s : Nat) : List Int := (List.range s).map fun t : Nat => spotAt f (t : Int) f.lots.length
theorem mapTo_step (f : Flow) (s : Nat) : mapTo f (s + 1) = mapTo f s ++ [spotAt f (s : Int) f.lots.length] := by unfold mapTo; rw [List.range_succ, List.map_append]; rfl
theorem mapTo_len (f : Flow) (s : Nat) : (mapTo f s).length = s := by simp [mapTo]
set_option maxHeartbeats 4000000 in
set_option maxRecDepth 100000 in
/-- frankingref25.Map of a flow that is known -/
theorem map25_any (B : Nat) (w : World) (vs vl : Value) (f : Flow) (hf : IsFlow B w vs vl f) (hB : B ≤ w.heap.size) (hck : checkE f = 0) (hkn : ∀ j, j < f.lots.length → (lotAt f.lots j).known = true) :
  Calls Try.prog 61 #[.agg #[vs, vl]] w fun e w' => ∃ v, e = .returned (.tuple #[v, .int .i64 0]) ∧ OwnInts w.heap.size w' v (mapL f) ∧ Below w.heap.size w w' := by
 have HF := Lib.hid hf
 have HCK := Lib.hid hck
 have HKN := Lib.hid hkn
 obtain ⟨h0, h64, h2000, h50, hlots⟩ := checkE_ok hck
 have HKB : Hid (knownTo f f.lots.length = true) := Lib.hid (by
  have : ∀ k, k ≤ f.lots.length → knownTo f k = true := fun k => by
   induction k with
   | zero => intro _; rfl
   | succ k ih => intro hk; simp only [knownTo, ih (by omega), hkn k (by omega)]; rfl
  exact this _ (Nat.le_refl _))
 have HSP : Hid (∀ s : Nat, (s : Int) < f.senders → I64 (spotAt f (s : Int) f.lots.length)) := Lib.hid fun s hs => by
  obtain ⟨p, p1, p2, p3⟩ := spot_asg h0 hlots hkn
  rw [← p3 s (by omega)]
  have h1 := (p2.2 _).1 (nth_mem' (l := p) (i := s) (by omega))
  have h2 := before_bd hck (Nat.le_refl _)
  unfold I64
  omega
 have HC := Lib.hid (fun o => check25_any B (w.alloc o) _ _ f (HF.out.below (box_below hB o) (Nat.le_refl _)) (by simp; omega))
 have HML : Hid (∀ n : Nat, f.senders = (n : Int) → mapL f = mapTo f n) := Lib.hid fun n hn => by unfold mapL mapTo; rw [hn, Int.toNat_natCast]
 obtain ⟨rfl, ⟨hs1, hs2⟩, hl⟩ := hf
 obtain ⟨b, off, cap, ⟨a, rfl, hcap, hmax, ha⟩, hlen, hc⟩ := hl
 obtain ⟨n, hn⟩ : ∃ n : Nat, f.senders = (n : Int) := ⟨f.senders.toNat, by omega⟩
 have hn64 : n ≤ 64 := by omega
 have HML2 := Lib.hid (HML.out n hn)
 rw [hck] at HC
 rw [hn] at HF HC HSP ⊢
 clear hc ha hlots hck hkn h50 hn hs1 hs2 h0 h64 HML
 go_enter Try.func61, Try.ntmps61
 go_wp2_with fail
 refine (HC.out _).mono ?_
 rintro e w1 ⟨rfl, hb1⟩
 have HX1 := Lib.hid ((Box.new w #[.int .i64 (n : Int), .slice a f.lots.length cap] 24).ext hb1)
 have HW1 : Hid (Below w.heap.size w w1) := Lib.hid ((box_below' w _).trans (hb1.mono (by simp)))
 obtain ⟨z1, r1⟩ := HX1.out
 clear hb1
 go_wp2_with fail
 refine (known25_any B w1 _ _ f (HF.out.below HW1.out hB) (Nat.le_trans hB HW1.out.size)).mono ?_
 rintro e w2 ⟨rfl, hb2⟩
 have HX2 := Lib.hid (HX1.out.ext hb2)
 have HW2 : Hid (Below w.heap.size w w2) := Lib.hid (HW1.out.trans (hb2.mono HW1.out.size))
 rw [HKB.out]
 clear hb2 z1 r1
 obtain ⟨z2, r2⟩ := HX2.out
 go_wp2
 refine wp_name (fun W3 hW3 => ?_)
 have HO3 : Hid (OwnInts w2.heap.size W3 (.slice (some ⟨w2.heap.size, 0, none⟩) 0 0) (mapTo f 0)) := Lib.hid (by rw [hW3]; exact OwnInts.made (Nat.le_refl _))
 have HZ2 : Hid (w2.heap.size ≤ W3.heap.size ∧ w.heap.size < w2.heap.size) := Lib.hid (by rw [hW3]; simp; omega)
 have HX3 : Hid (Box W3 w.heap.size #[.int .i64 (n : Int), .slice a f.lots.length cap]) := Lib.hid (by rw [hW3]; exact HX2.out.alloc _)
 have HW3 : Hid (Below w.heap.size w W3) := Lib.hid (by rw [hW3]; exact HW2.out.alloc HW2.out.size _)
 have hne3 : w2.heap.size ≠ w.heap.size := by omega
 clear hW3 z2 r2
 go_loopw [5, 6] (fun v i wr => ∃ s : Nat, s ≤ n ∧ i = .int .i64 s ∧ OwnInts w2.heap.size wr v (mapTo f s) ∧ w2.heap.size ≤ wr.heap.size ∧ Box wr w.heap.size #[.int .i64 (n : Int), .slice a f.lots.length cap] ∧ Below w.heap.size w wr) (fun _ i _ => n - (intOf i).toNat)
 case atStart => exact ⟨0, by omega, rfl, HO3.out, HZ2.out.1, HX3.out, HW3.out⟩
 case round =>
  obtain ⟨s, hs, rfl, ho, hne, hbx, hbr⟩ := hrel
  have HO := Lib.hid ho
  have HX := Lib.hid hbx
  have HBR := Lib.hid hbr
  have HNE := Lib.hid hne
  obtain ⟨z3, r3⟩ := hbx
  clear ho hbr HO3 HX3 HW3 hne
  by_cases hlt : s < n
  ·have hlt' : decide ((s : Int) < (n : Int)) = true := decide_eq_true (by omega)
   have HLS := Lib.hid (mapTo_step f s)
   have HLN := Lib.hid (mapTo_len f s)
   have HI := Lib.hid (HSP.out s (by omega))
   have HFO := Lib.hid (follow25_any B wr _ _ f s (HF.out.below HBR.out hB) (Nat.le_trans hB HBR.out.size) HCK.out HKN.out (by have := HF.out.1; simp at this; omega))
   obtain ⟨S, hS⟩ : ∃ S, spotAt f (s : Int) f.lots.length = S := ⟨_, rfl⟩
   rw [hS] at HLS HI HFO
   obtain ⟨av, nv, cv, rfl⟩ := HO.out.form'
   clear hS
   go_wp2_with fail
   refine HFO.out.mono ?_
   rintro e w5 ⟨rfl, hb5⟩
   have HO5 := Lib.hid (HO.out.below hb5)
   have HX5 := Lib.hid (HX.out.ext hb5)
   have HW5 : Hid (Below w.heap.size w w5) := Lib.hid (HBR.out.trans (hb5.mono HBR.out.size))
   have HS5 : Hid (w2.heap.size ≤ w5.heap.size) := Lib.hid (Nat.le_trans HNE.out hb5.size)
   clear hb5 z3 r3
   go_wp2_with (at_builtin; refine append_int (n := S) rfl _ _ rfl rfl (HO5.out.alloc _) rfl (World.cell?_alloc_at _ _ _ _ rfl) HI.out (by have := HLN.out; omega) (by have := HS5.out; simp; omega) ?c5)
   case c5 =>
    intro v8 w8 ho8 hg8
    have HO8 := Lib.hid ho8
    have HX8 := Lib.hid ((HX5.out.alloc (.cells #[.int .i64 S] 3)).grown hg8 (fun e => by have := (HO5.out.1.lt _ e.symm).1; have := HZ2.out.2; omega))
    have HW8 : Hid (Below w.heap.size w w8) := Lib.hid ((HW5.out.alloc HW5.out.size _).grown hg8 (by have := HW5.out.size; simp; omega) (fun q hq => by have := (HO5.out.1.lt q hq).1; have := HZ2.out.2; omega))
    have HS8 : Hid (w2.heap.size ≤ w8.heap.size) := Lib.hid (by have := HS5.out; have := hg8.size; simp at this; omega)
    clear ho8 hg8
    go_wp2
    go_roundw
    case rel => exact ⟨s + 1, by omega, by go_num, by rw [HLS.out]; exact HO8.out, HS8.out, HX8.out, HW8.out⟩
    case measure => simp [intOf]; omega
  ·have hlt' : decide ((s : Int) < (n : Int)) = false := decide_eq_false (by omega)
   obtain rfl : s = n := by omega
   go_wp2
   go_ret2
   exact ⟨_, rfl, by rw [HML2.out]; exact HO.out.mono (Nat.le_of_lt HZ2.out.2), HBR.out⟩
set_option maxHeartbeats 4000000 in
set_option maxRecDepth 100000 in
/-- frankingref29.Leads -/
theorem leads29_any (B : Nat) (w : World) (vs vl va vw : Value) (f : Flow) (zs : List Int) (W : List (List Int)) (hf : IsFlow B w vs vl f) (hz : IsInts B w va zs) (hw : IsMat B w vw W) (hB : B ≤ w.heap.size) (hck : checkE f = 0) (hl : W.length = f.lots.length) (ho : WayOk f W f.lots.length) :
  Calls Try.prog 39 #[.agg #[vs, vl], va, vw] w fun e w' => e = .returned (.bool (leadsB f zs W)) ∧ Below w.heap.size w w' := by
 have HF := Lib.hid hf
 have HZ := Lib.hid hz
 have HW := Lib.hid hw
 have h2000 := (checkE_ok hck).2.2.1
 have HA := Lib.hid (fun o => along29_any B (w.alloc o) _ _ _ f W (HF.out.below (box_below hB o) (Nat.le_refl _)) (HW.out.below (box_below hB o) (Nat.le_refl _)) (by simp; omega) (by omega) h2000)
 have hca := along_check hck ho
 have hka := fun j (hj : j < (alongF f W).lots.length) => along_known (f := f) (w := W) j (by rwa [along_len] at hj)
 have hle : leadsB f zs W = sameB (mapL (alongF f W)) zs := rfl
 have hal : alongL f W f.lots.length = (alongF f W).lots := rfl
 have hse : (alongF f W).senders = f.senders := rfl
 rw [hal] at HA
 obtain ⟨G, hG⟩ : ∃ G, alongF f W = G := ⟨_, rfl⟩
 rw [hG] at hca hka hle hse HA
 have HCA := Lib.hid hca
 have HKA := Lib.hid hka
 have HLE := Lib.hid hle
 have HSE := Lib.hid hse
 obtain ⟨rfl, ⟨hs1, hs2⟩, hl'⟩ := hf
 obtain ⟨b, off, cap, ⟨a, rfl, hcap, hmax, ha⟩, hlen, hc⟩ := hl'
 obtain ⟨az, cz, rfl⟩ := hz.form
 obtain ⟨bw, ow, cw, ⟨aw, rfl, _⟩, _⟩ := hw
 clear hc ha hck ho hz hca hka hle hal hse hG hl
 go_enter Try.func39, Try.ntmps39
 go_wp2_with fail
 refine (HA.out _).mono ?_
 rintro e w1 ⟨v1, rfl, h1, hb1⟩
 have HW1 : Hid (Below w.heap.size w w1) := Lib.hid ((box_below' w _).trans (hb1.mono (by simp)))
 have HF1 : Hid (IsFlow w1.heap.size w1 (.int .i64 f.senders) v1 G) := Lib.hid ⟨by rw [HSE.out], by rw [HSE.out]; exact ⟨hs1, hs2⟩, h1⟩
 obtain ⟨b1, o1, c1, ⟨a1, rfl, _⟩, _⟩ := h1
 clear hb1
 go_wp2_with fail
 refine (map25_any w1.heap.size w1 _ _ G HF1.out (Nat.le_refl _) HCA.out HKA.out).mono ?_
 rintro e w2 ⟨v2, rfl, h2, hb2⟩
 have HW2 : Hid (Below w.heap.size w w2) := Lib.hid (HW1.out.trans (hb2.mono HW1.out.size))
 have HO2 := Lib.hid h2
 obtain ⟨a2, c2, rfl, _⟩ := h2.form
 clear h2 hb2
 obtain ⟨M, hM⟩ : ∃ M, mapL G = M := ⟨_, rfl⟩
 rw [hM] at HO2 HLE ⊢
 clear hM
 go_wp2_with fail
 refine (same_any w2.heap.size w2 _ _ _ zs HO2.out.isInts ((HZ.out.below HW2.out hB).mono (Nat.le_trans hB HW2.out.size))).mono ?_
 rintro e w3 ⟨rfl, hd3⟩
 have HD3 := Lib.hid hd3
 clear hd3
 go_wp2
 go_ret
 exact ⟨by rw [HLE.out]; rfl, HW2.out.trans (HD3.out.below _)⟩
end Go.Proofs.Yteiaeaciaglmgaa
set_option linter.unusedVariables false
set_option linter.unusedSimpArgs false
namespace Go.Proofs.Yteiaeaciaglmgaa
open Go.RowKit
/-- a fact on a value that lasts while older memory stays -/
def Lasts (P : World → Value → Prop) : Prop := ∀ w w' v, P w v → Below w.heap.size w w' → P w' v
/-- x7: what the first call makes; x8, x9: the pair; x10, x12: its first part; x11, x13: its second -/
structure TwoC (WA : World) (P7 P8 : World → Value → Prop) (R : Value) (b7 b8 b9 b10 b11 b12 b13 : Bool) (x7 x8 x9 x10 x11 x12 x13 : Value) (w : World) : Prop where
 hb : Below WA.heap.size WA w
 h7 : b7 = true → P7 w x7
 h8 : b8 = true → ∃ v, x8 = .tuple #[v, R] ∧ P8 w v ∧ (b9 = true → x9 = .tuple #[v, R]) ∧ (b10 = true → x10 = v) ∧ (b11 = true → x11 = R) ∧ (b12 = true → x12 = v) ∧ (b13 = true → x13 = R)
 c9 : b9 = true → b8 = true
 c10 : b10 = true → b9 = true
 c11 : b11 = true → b9 = true
 c12 : b12 = true → b10 = true
 c13 : b13 = true → b11 = true
section
variable {WA : World} {P7 P8 : World → Value → Prop} {R : Value} {b7 b8 b9 b10 b11 b12 b13 : Bool} {x7 x8 x9 x10 x11 x12 x13 : Value} {w : World}
theorem TwoC.start (hb : Below WA.heap.size WA w) : TwoC WA P7 P8 R false false false false false false false x7 x8 x9 x10 x11 x12 x13 w :=
 {hb := hb, h7 := (fun h => by cases h), h8 := (fun h => by cases h), c9 := (fun h => by cases h), c10 := (fun h => by cases h), c11 := (fun h => by cases h), c12 := (fun h => by cases h), c13 := (fun h => by cases h) }
variable (h : TwoC WA P7 P8 R b7 b8 b9 b10 b11 b12 b13 x7 x8 x9 x10 x11 x12 x13 w)
include h
theorem TwoC.turn (l7 : Lasts P7) (l8 : Lasts P8) {w' : World} (hb : Below w.heap.size w w') : TwoC WA P7 P8 R b7 b8 b9 b10 b11 b12 b13 x7 x8 x9 x10 x11 x12 x13 w' :=
 {hb := h.hb.trans (hb.mono h.hb.size), h7 := (fun e => l7 _ _ _ (h.h7 e) hb), h8 := (fun e => by obtain ⟨v, e1, e2, e3⟩ := h.h8 e; exact ⟨v, e1, l8 _ _ _ e2 hb, e3⟩), c9 := h.c9, c10 := h.c10, c11 := h.c11, c12 := h.c12, c13 := h.c13 }
theorem TwoC.s7 (l7 : Lasts P7) (l8 : Lasts P8) {w' : World} (hb : Below w.heap.size w w') {x : Value} (hx : P7 w' x) : TwoC WA P7 P8 R true b8 b9 b10 b11 b12 b13 x x8 x9 x10 x11 x12 x13 w' := by
 have h' := h.turn l7 l8 hb
 exact { hb := h'.hb, h7 := (fun _ => hx), h8 := h'.h8, c9 := h.c9, c10 := h.c10, c11 := h.c11, c12 := h.c12, c13 := h.c13 }
theorem TwoC.s8 (hi : b8 = false) (l7 : Lasts P7) (l8 : Lasts P8) {w' : World} (hb : Below w.heap.size w w') {v : Value} (hx : P8 w' v) : TwoC WA P7 P8 R b7 true b9 b10 b11 b12 b13 x7 (.tuple #[v, R]) x9 x10 x11 x12 x13 w' := by
 have h' := h.turn l7 l8 hb
 have n9 : b9 = false := by
  cases e : b9 with
  | false => rfl
  | true => have := h.c9 e; rw [hi] at this; cases this
 have n10 : b10 = false := by
  cases e : b10 with
  | false => rfl
  | true => have := h.c10 e; rw [n9] at this; cases this
 have n11 : b11 = false := by
  cases e : b11 with
  | false => rfl
  | true => have := h.c11 e; rw [n9] at this; cases this
 have n12 : b12 = false := by
  cases e : b12 with
  | false => rfl
  | true => have := h.c12 e; rw [n10] at this; cases this
 have n13 : b13 = false := by
  cases e : b13 with
  | false => rfl
  | true => have := h.c13 e; rw [n11] at this; cases this
 exact { hb := h'.hb, h7 := h'.h7, h8 := (fun _ => ⟨v, rfl, hx, (fun e => by rw [n9] at e; cases e), (fun e => by rw [n10] at e; cases e), (fun e => by rw [n11] at e; cases e), (fun e => by rw [n12] at e; cases e), (fun e => by rw [n13] at e; cases e)⟩), c9 := (fun _ => rfl), c10 := h.c10, c11 := h.c11, c12 := h.c12, c13 := h.c13 }
theorem TwoC.s9 (d8 : b8 = true) : TwoC WA P7 P8 R b7 b8 true b10 b11 b12 b13 x7 x8 x8 x10 x11 x12 x13 w :=
 {hb := h.hb, h7 := h.h7, h8 := (fun e => by obtain ⟨v, e1, e2, e3, e4⟩ := h.h8 e; exact ⟨v, e1, e2, fun _ => e1, e4⟩), c9 := (fun _ => d8), c10 := (fun _ => rfl), c11 := (fun _ => rfl), c12 := h.c12, c13 := h.c13 }
theorem TwoC.at9 (d9 : b9 = true) : ∃ v, x9 = .tuple #[v, R] ∧ (b10 = true → x10 = v) ∧ (b11 = true → x11 = R) ∧ x8 = .tuple #[v, R] ∧ P8 w v := by
 obtain ⟨v, e1, e2, e3, e4, e5, _⟩ := h.h8 (h.c9 d9)
 exact ⟨v, e3 d9, e4, e5, e1, e2⟩
theorem TwoC.s10 (d9 : b9 = true) {v : Value} (hv : x9 = .tuple #[v, R]) : TwoC WA P7 P8 R b7 b8 b9 true b11 b12 b13 x7 x8 x9 v x11 x12 x13 w :=
 {hb := h.hb, h7 := h.h7, h8 := (fun e => by
   obtain ⟨u, e1, e2, e3, e4, e5⟩ := h.h8 e
   have : u = v := by have := (e3 d9).symm.trans hv; simpa using this
   subst this
   exact ⟨u, e1, e2, e3, fun _ => rfl, e5⟩), c9 := h.c9, c10 := (fun _ => d9), c11 := h.c11, c12 := (fun _ => rfl), c13 := h.c13 }
theorem TwoC.s11 (d9 : b9 = true) : TwoC WA P7 P8 R b7 b8 b9 b10 true b12 b13 x7 x8 x9 x10 R x12 x13 w :=
 {hb := h.hb, h7 := h.h7, h8 := (fun e => by obtain ⟨u, e1, e2, e3, e4, e5, e6⟩ := h.h8 e; exact ⟨u, e1, e2, e3, e4, fun _ => rfl, e6⟩), c9 := h.c9, c10 := h.c10, c11 := (fun _ => d9), c12 := h.c12, c13 := (fun _ => rfl) }
theorem TwoC.s12 (d10 : b10 = true) : TwoC WA P7 P8 R b7 b8 b9 b10 b11 true b13 x7 x8 x9 x10 x11 x10 x13 w :=
 {hb := h.hb, h7 := h.h7, h8 := (fun e => by obtain ⟨u, e1, e2, e3, e4, e5, e6, e7⟩ := h.h8 e; exact ⟨u, e1, e2, e3, e4, e5, fun _ => e4 d10, e7⟩), c9 := h.c9, c10 := h.c10, c11 := h.c11, c12 := (fun _ => d10), c13 := h.c13 }
theorem TwoC.s13 (d11 : b11 = true) : TwoC WA P7 P8 R b7 b8 b9 b10 b11 b12 true x7 x8 x9 x10 x11 x12 R w :=
 {hb := h.hb, h7 := h.h7, h8 := (fun e => by obtain ⟨u, e1, e2, e3, e4, e5, e6, e7⟩ := h.h8 e; exact ⟨u, e1, e2, e3, e4, e5, e6, fun _ => rfl⟩), c9 := h.c9, c10 := h.c10, c11 := h.c11, c12 := h.c12, c13 := (fun _ => d11) }
end
theorem lasts_mat (rows : List (List Int)) : Lasts (fun w v => IsMat w.heap.size w v rows) := fun w w' v h hb => (h.below hb (Nat.le_refl _)).mono hb.size
end Go.Proofs.Yteiaeaciaglmgaa
set_option linter.unusedVariables false
set_option linter.unusedSimpArgs false
namespace Go.Proofs.Yteiaeaciaglmgaa
open Go.RowKit
/-- what find returns as its way -/
def findV (f : Flow) (zs : List Int) (m : Nat) (W : List (List Int)) : List (List Int) := (findM f zs m W).getD (if m = 0 then W else [])
theorem findV_some {f : Flow} {zs : List Int} {m : Nat} {W : List (List Int)} {L : List (List Int)} {i : Nat} (hL : permsOf (lotAt f.lots (f.lots.length - (m + 1))) = L) (hi : i < L.length) (hn : ∀ j, j < i → findM f zs m (W ++ [rowAt L j]) = none) (hs : (findM f zs m (W ++ [rowAt L i])).isSome = true) :
  (findM f zs (m + 1) W).isSome = true ∧ findV f zs (m + 1) W = findV f zs m (W ++ [rowAt L i]) := by
 obtain ⟨v, hv⟩ := Option.isSome_iff_exists.1 hs
 have : findM f zs (m + 1) W = some v := by
  simp only [findM, hL]
  refine List.findSome?_eq_some_iff.2 ⟨L.take i, rowAt L i, L.drop (i + 1), ?_, hv, fun x hx => ?_⟩
  ·have e : rowAt L i = L[i] := by unfold rowAt; rw [List.getD_eq_getElem?_getD, List.getElem?_eq_getElem hi]; rfl
   rw [e, List.getElem_cons_drop, List.take_append_drop]
  ·obtain ⟨j, hj, e⟩ := List.mem_iff_getElem.1 hx
   rw [List.length_take] at hj
   rw [List.getElem_take] at e
   have e2 : x = rowAt L j := by unfold rowAt; rw [List.getD_eq_getElem?_getD, List.getElem?_eq_getElem (by omega)]; exact e.symm
   rw [e2]
   exact hn j (by omega)
 unfold findV
 rw [this, hv]
 exact ⟨rfl, rfl⟩
theorem findV_none {f : Flow} {zs : List Int} {m : Nat} {W : List (List Int)} {L : List (List Int)} (hL : permsOf (lotAt f.lots (f.lots.length - (m + 1))) = L) (hn : ∀ j, j < L.length → findM f zs m (W ++ [rowAt L j]) = none) : (findM f zs (m + 1) W).isSome = false ∧ findV f zs (m + 1) W = [] := by
 have : findM f zs (m + 1) W = none := by
  simp only [findM, hL]
  rw [List.findSome?_eq_none_iff]
  intro x hx
  obtain ⟨j, hj, rfl⟩ := memE_row hx
  exact hn j hj
 unfold findV
 rw [this]
 exact ⟨rfl, rfl⟩
theorem permsL_few {n : Nat} (h : n ≤ 8) : (permsL n).length ≤ 40320 := by
 rw [permsL_len]
 exact Nat.le_trans (facN_mono h) (by decide)
theorem ins_few8 {f : Flow} (hc : checkE f = 0) (h8 : f.senders ≤ 8) {k : Nat} (hk : k < f.lots.length) : (lotAt f.lots k).ins.length ≤ 8 := by
 obtain ⟨h0, _, _, _, hl⟩ := checkE_ok hc
 obtain ⟨p, p1, p2, _⟩ := pos_all (w := []) h0 (Nat.zero_le _) (show lotsB f 0 = true from rfl) (fun j hj => by omega)
 obtain ⟨q, hq⟩ := List.exists_mem_of_ne_nil _ (asg_ne h0 k (lotsB_le hl (Nat.le_of_lt hk)))
 have ha := asg_all h0 k (lotsB_le hl (Nat.le_of_lt hk)) q hq
 have hb := lotB_parts (lotsB_lot hl hk)
 have h1 := nodup_len hb.2.1 (m := q) (fun x hx => (ha.2 x).2 (hb.2.2.1 x hx))
 rw [asg_len k q hq] at h1
 omega
set_option maxHeartbeats 8000000 in
set_option maxRecDepth 100000 in
/-- frankingref29.find -/
theorem find29_any (f : Flow) (zs : List Int) (hck : checkE f = 0) (h8 : f.senders ≤ 8) : ∀ (m B : Nat) (w : World) (vs vl va vw : Value) (W : List (List Int)), IsFlow B w vs vl f → IsInts B w va zs → IsMat B w vw W → B ≤ w.heap.size → W.length + m = f.lots.length → WayOk f W W.length →
  Calls Try.prog 37 #[.agg #[vs, vl], va, vw] w fun e w' => ∃ v, e = .returned (.tuple #[v, .bool (findM f zs m W).isSome]) ∧ IsMat w'.heap.size w' v (findV f zs m W) ∧ Below w.heap.size w w' := by
 intro m
 induction m with
 | zero =>
  intro B w vs vl va vw W hf hz hw hB hm ho
  have HF := Lib.hid hf
  have HZ := Lib.hid hz
  have HW := Lib.hid hw
  have HLD := Lib.hid (fun o => leads29_any B (w.alloc o) _ _ _ _ f zs W (HF.out.below (box_below hB o) (Nat.le_refl _)) (HZ.out.below (box_below hB o) (Nat.le_refl _)) (HW.out.below (box_below hB o) (Nat.le_refl _)) (by simp; omega) hck (by omega) (by rw [show f.lots.length = W.length by omega]; exact ho))
  have HRS : Hid ((findM f zs 0 W).isSome = leadsB f zs W ∧ findV f zs 0 W = W) := Lib.hid (by
   unfold findV
   simp only [findM]
   cases leadsB f zs W <;> simp)
  obtain ⟨rfl, ⟨hs1, hs2⟩, hl'⟩ := hf
  obtain ⟨b, off, cap, ⟨a, rfl, hcap, hmax, ha⟩, hlen, hc⟩ := hl'
  obtain ⟨az, cz, rfl⟩ := hz.form
  obtain ⟨bw, ow, cw, ⟨aw, rfl, _⟩, _⟩ := hw
  have hq : ((W.length : Int) == (f.lots.length : Int)) = true := beq_iff_eq.2 (by omega)
  have HM := Lib.hid hm
  obtain ⟨n, hn⟩ : ∃ n, W.length = n := ⟨_, rfl⟩
  rw [hn] at HLD hq HW ⊢
  clear hc ha ho hz hm hn hck h8
  go_enter Try.func37, Try.ntmps37
  go_wp2_with fail
  refine (HLD.out _).mono ?_
  rintro e w1 ⟨rfl, hb1⟩
  have HW1 : Hid (Below w.heap.size w w1) := Lib.hid ((box_below' w _).trans (hb1.mono (by simp)))
  clear hb1
  go_wp2
  go_ret2
  exact ⟨_, by rw [HRS.out.1]; rfl, by rw [HRS.out.2]; exact (HW.out.below HW1.out hB).mono (Nat.le_trans hB HW1.out.size), HW1.out⟩
 | succ m ih =>
  intro B w vs vl va vw W hf hz hw hB hm ho
  have HF := Lib.hid hf
  have HZ := Lib.hid hz
  have HW := Lib.hid hw
  have HO := Lib.hid ho
  have HIH := Lib.hid ih
  have hk : W.length < f.lots.length := by omega
  have HLQ0 : Hid (∀ PL, permsOf (lotAt f.lots W.length) = PL → permsOf (lotAt f.lots (f.lots.length - (m + 1))) = PL) := Lib.hid fun PL h => by rw [show f.lots.length - (m + 1) = W.length by omega]; exact h
  have h2000 := (checkE_ok hck).2.2.1
  have HN8 := Lib.hid (ins_few8 hck h8 hk)
  obtain ⟨rfl, ⟨hs1, hs2⟩, hl'⟩ := hf
  obtain ⟨b, off, cap, ⟨a, rfl, hcap, hmax, ha⟩, hlen, hc⟩ := hl'
  obtain ⟨az, cz, rfl⟩ := hz.form
  obtain ⟨bw, ow, cw, ⟨aw, rfl, _⟩, _⟩ := hw
  obtain rfl : a = some ⟨b, off, none⟩ := by rcases ha with h | h; exact h; omega
  obtain ⟨vi, vk, vp, q1, q2, q3, hli, rfl, hlp⟩ := hc _ hk
  obtain ⟨ai, ci, rfl⟩ := hli.form
  obtain ⟨ap, cp, rfl⟩ := hlp.form
  have HLP0 := Lib.hid hlp
  have hq : ((W.length : Int) == (f.lots.length : Int)) = false := beq_eq_false_iff_ne.2 (by omega)
  have HM := Lib.hid hm
  have hbB : b < w.heap.size := by have := q1.1; omega
  have c1 := q1.2
  have c2 := q2.2
  have c3 := q3.2
  have HC1 := Lib.hid c1
  obtain ⟨n, hn⟩ : ∃ n, W.length = n := ⟨_, rfl⟩
  have HN0 := Lib.hid hn
  rw [hn] at hq HW hk c1 c2 c3 HC1 ⊢
  have HN : Hid (W.length = n ∧ W.length ≤ 2000) := Lib.hid ⟨hn, by omega⟩
  rw [hn] at HN8
  have HLPE : Hid (permsOf (lotAt f.lots n) = if (lotAt f.lots n).known then [(lotAt f.lots n).perm] else permsL (lotAt f.lots n).ins.length) := Lib.hid rfl
  rw [hn] at HLQ0
  rw [hn] at HLP0
  clear hc ha ho hz hm hn hck h8 ih hli hlp q1 q2 q3
  go_enter Try.func37, Try.ntmps37
  cases hkn : (lotAt f.lots n).known
  ·rw [hkn] at c2
   have HLP1 : Hid (permsOf (lotAt f.lots n) = permsL (lotAt f.lots n).ins.length) := Lib.hid (by rw [HLPE.out, hkn]; rfl)
   clear hkn
   go_wp2_with fail
   refine (perms29_any (lotAt f.lots n).ins.length HN8.out (lotAt f.lots n).ins.length _ _ (.slice none 0 0) [] ⟨List.nodup_nil, fun x h => by cases h⟩ (by simp) (OwnInts.nil _ _) (Nat.le_refl _)).mono ?_
   rintro e W1 ⟨v1, rfl, ho1, hb1⟩
   have HW1 : Hid (Below w.heap.size w W1) := Lib.hid (((box_below' w _).trans ((box_below' _ _).mono (by simp))).trans (hb1.mono (by simp; omega)))
   have HX1 : Hid (Box W1 w.heap.size #[.int .i64 f.senders, .slice (some ⟨b, off, none⟩) f.lots.length cap]) := Lib.hid (((Box.new w #[.int .i64 f.senders, .slice (some ⟨b, off, none⟩) f.lots.length cap] 24).alloc _).ext hb1)
   have HLM := Lib.hid ho1.isMat
   obtain ⟨aL, cL, rfl, _⟩ := ho1.form
   have HPF := Lib.hid (permsL_few HN8.out)
   obtain ⟨PL, hL⟩ : ∃ PL, permsL (lotAt f.lots n).ins.length = PL := ⟨_, rfl⟩
   have hL' : permsF (lotAt f.lots n).ins.length (lotAt f.lots n).ins.length [] = PL := hL
   rw [hL'] at HLM ⊢
   rw [hL] at HLP1 HPF
   have hpf := HPF.out
   have HLQ := Lib.hid (HLQ0.out PL HLP1.out)
   have HLP : Hid (permsOf (lotAt f.lots W.length) = PL) := Lib.hid (by rw [HN.out.1]; exact HLP1.out)
   clear hL hL' hb1 ho1 c1 c2 c3
   go_wp2
   go_loopw [10] (fun i wr => ∃ j : Nat, j ≤ PL.length ∧ i = .int .i64 j ∧ (∀ t, t < j → findM f zs m (W ++ [rowAt PL t]) = none) ∧ Below W1.heap.size W1 wr) (fun i _ => PL.length - (intOf i).toNat)
   case atStart => exact ⟨0, by omega, rfl, fun t ht => by omega, Below.refl _ _⟩
   case round =>
    obtain ⟨j, hj, rfl, hnone, hbr⟩ := hrel
    have HNO := Lib.hid hnone
    have HBR := Lib.hid hbr
    clear hnone hbr
    by_cases hlt : j < PL.length
    ·have HWR : Hid (Below w.heap.size w wr) := Lib.hid (HW1.out.trans (HBR.out.mono HW1.out.size))
     have HXR := Lib.hid (HX1.out.ext HBR.out)
     obtain ⟨bL, oL, rfl, hrow⟩ := HLM.out.cells (by omega)
     obtain ⟨r, hr1, hr2⟩ := hrow j hlt
     obtain ⟨ar, cr, rfl⟩ := hr2.form
     have HROW := Lib.hid hr2
     have HWM : Hid (∀ W', Below wr.heap.size wr W' → IsMat wr.heap.size W' (.slice aw n cw) W) := Lib.hid fun W' hW => ((HW.out.below (HWR.out.trans (hW.mono HWR.out.size)) hB).mono (Nat.le_trans hB HWR.out.size))
     have HKB : Hid (∀ W', Below wr.heap.size wr W' → W'.cell? ⟨w.heap.size, 0, none⟩ = some (.int .i64 f.senders) ∧ W'.cell? ⟨w.heap.size, 1, none⟩ = some (.slice (some ⟨b, off, none⟩) f.lots.length cap) ∧ W'.cell? ⟨bL, oL + j, none⟩ = some (.slice ar (rowAt PL j).length cr)) := Lib.hid fun W' hW =>
      ⟨(HXR.out.ext hW).2 0, (HXR.out.ext hW).2 1, ((hr1.below HBR.out (Nat.le_refl _)).below hW HBR.out.size).2⟩
     have HROW2 : Hid (∀ W', Below wr.heap.size wr W' → IsInts wr.heap.size W' (.slice ar (rowAt PL j).length cr) (rowAt PL j)) := Lib.hid fun W' hW => ((HROW.out.below HBR.out (Nat.le_refl _)).below hW HBR.out.size).mono HBR.out.size
     have HWI : Hid (∀ W', Below wr.heap.size wr W' → Calls Try.prog 60 #[.slice aw n cw, .slice ar (rowAt PL j).length cr] W' fun e w' => ∃ v', e = .returned v' ∧ IsMat w'.heap.size w' v' (W ++ [rowAt PL j]) ∧ Below W'.heap.size W' w') := Lib.hid fun W' hW =>
      with29_any wr.heap.size W' _ _ W (rowAt PL j) (HWM.out W' hW) (HROW2.out W' hW) hW.size (by have := HN.out; omega)
     have hpm : rowAt PL j ∈ permsOf (lotAt f.lots W.length) := by rw [HLP.out]; exact rowE_mem hlt
     have HFI : Hid (∀ W' v7, Below wr.heap.size wr W' → IsMat W'.heap.size W' v7 (W ++ [rowAt PL j]) → Calls Try.prog 37 #[.agg #[.int .i64 f.senders, .slice (some ⟨b, off, none⟩) f.lots.length cap], .slice az zs.length cz, v7] W' fun e w' => ∃ v, e = .returned (.tuple #[v, .bool (findM f zs m (W ++ [rowAt PL j])).isSome]) ∧ IsMat w'.heap.size w' v (findV f zs m (W ++ [rowAt PL j])) ∧ Below W'.heap.size W' w') := Lib.hid fun W' v7 hW h7 => by
      have hWW := HWR.out.trans (hW.mono HWR.out.size)
      exact HIH.out W'.heap.size W' _ _ _ v7 (W ++ [rowAt PL j]) ((HF.out.below hWW hB).mono (Nat.le_trans hB hWW.size)) ((HZ.out.below hWW hB).mono (Nat.le_trans hB hWW.size)) h7 (Nat.le_refl _) (by have := HN.out; have := HM.out; simp; omega) (by have h := way_app rfl HO.out hpm; simpa using h)
     have HFS := Lib.hid (fun hs => findV_some (f := f) (zs := zs) (m := m) (W := W) HLQ.out hlt HNO.out hs)
     obtain ⟨RV, hRV⟩ : ∃ R, findV f zs m (W ++ [rowAt PL j]) = R := ⟨_, rfl⟩
     have HNN : Hid ((findM f zs m (W ++ [rowAt PL j])).isSome = false → findM f zs m (W ++ [rowAt PL j]) = none) := Lib.hid fun h => by
      cases e : findM f zs m (W ++ [rowAt PL j]) with
      | none => rfl
      | some v => rw [e] at h; cases h
     obtain ⟨R, hR⟩ : ∃ R, (findM f zs m (W ++ [rowAt PL j])).isSome = R := ⟨_, rfl⟩
     rw [hRV, hR] at HFI HFS
     rw [hR] at HNN
     have HL7 := Lib.hid (lasts_mat (W ++ [rowAt PL j]))
     have HL8 := Lib.hid (lasts_mat RV)
     obtain ⟨WA, rfl⟩ : ∃ W', W' = wr := ⟨_, rfl⟩
     clear hr1 hr2 hrow hpm hRV hR
     go_upto_region 10 with fail
     obtain ⟨V, hV⟩ : ∃ V : List (Option Value), V = [some (.agg #[.int .i64 f.senders, .slice (some ⟨b, off, none⟩) f.lots.length cap]), some (.slice az zs.length cz), some (.slice aw n cw), some (.slice (some ⟨bL, oL, none⟩) PL.length cL), some (.int .i64 (j : Int)), some (.pointer (some ⟨bL, oL + j, none⟩)), some (.slice ar (rowAt PL j).length cr), none, none, none, none, none, none, none] := ⟨_, rfl⟩
     have HVV := Lib.hid hV
     clear hV
     refine wp_region_V [some 54, some 55, some 56, some 57, some 58, some 59, some 60, some 61, some 62, some 53, some 63, some 64, some 11, some 12] (fun L w' xs => ValsAt V L xs ∧ (TwoC WA (fun w v => IsMat w.heap.size w v (W ++ [rowAt PL j])) (fun w v => IsMat w.heap.size w v RV) (.bool R) (L 7) (L 8) (L 9) (L 10) (L 11) (L 12) (L 13) (xs 7) (xs 8) (xs 9) (xs 10) (xs 11) (xs 12) (xs 13) w')) (by kernel_rfl) (by kernel_rfl) (by rfl) (by rfl) (by rfl) ?_ ?_ ?_
     focus
      exact fun xs => ⟨ValsAt.none _ _, TwoC.start (Below.refl _ _).drew⟩
     focus
      refine ⟨?_, ?_, ?_, ?_, ?_, ?_, ?_, ?_, ?_, ?_, ?_, ?_, ?_, ?_, trivial⟩
      all_goals
       intro L a' w' xs hi hd hf hJ K hK
       obtain ⟨hv, hA⟩ := hJ
       have HF := Lib.hid hf
       have HVA := Lib.hid hv
       have HLI := Lib.hid hi
       clear hf hv hi
      focus
       clear hd
       obtain ⟨ρ, hρ⟩ : ∃ ρ, a'.eval = ρ := ⟨_, rfl⟩
       have hcst : ∀ v, ρ (.const v) = v := fun v => (congrFun hρ (.const v)).symm
       have l3 : ρ (.tmp 3) = .pointer (some ⟨w.heap.size, 0, none⟩) := (congrFun hρ (.tmp 3)).symm.trans (HF.out.lo 3 rfl)
       obtain ⟨k0, k1, k2⟩ := HKB.out _ hA.hb
       rw [if_pos (by simp [Region.wanted])]
       unfold Oper.wp
       rw [hρ]
       clear hρ
       go_simp
       exact hK.out _ _ ⟨HVA.out.set (i := 0) (by rw [HVV.out]; rfl), (by simp only [updV_ne (xs := xs) (show (7 : Nat) ≠ 0 by decide), updV_ne (xs := xs) (show (8 : Nat) ≠ 0 by decide), updV_ne (xs := xs) (show (9 : Nat) ≠ 0 by decide), updV_ne (xs := xs) (show (10 : Nat) ≠ 0 by decide), updV_ne (xs := xs) (show (11 : Nat) ≠ 0 by decide), updV_ne (xs := xs) (show (12 : Nat) ≠ 0 by decide), updV_ne (xs := xs) (show (13 : Nat) ≠ 0 by decide)]; exact hA)⟩
      focus
       clear hd
       obtain ⟨ρ, hρ⟩ : ∃ ρ, a'.eval = ρ := ⟨_, rfl⟩
       have hcst : ∀ v, ρ (.const v) = v := fun v => (congrFun hρ (.const v)).symm
       have l1 : ρ (.tmp 1) = .slice az zs.length cz := (congrFun hρ (.tmp 1)).symm.trans (HF.out.lo 1 rfl)
       rw [if_pos (by simp [Region.wanted])]
       unfold Oper.wp
       rw [hρ]
       clear hρ
       go_simp
       exact hK.out _ _ ⟨HVA.out.set (i := 1) (by rw [HVV.out]; rfl), (by simp only [updV_ne (xs := xs) (show (7 : Nat) ≠ 1 by decide), updV_ne (xs := xs) (show (8 : Nat) ≠ 1 by decide), updV_ne (xs := xs) (show (9 : Nat) ≠ 1 by decide), updV_ne (xs := xs) (show (10 : Nat) ≠ 1 by decide), updV_ne (xs := xs) (show (11 : Nat) ≠ 1 by decide), updV_ne (xs := xs) (show (12 : Nat) ≠ 1 by decide), updV_ne (xs := xs) (show (13 : Nat) ≠ 1 by decide)]; exact hA)⟩
      focus
       clear hd
       obtain ⟨ρ, hρ⟩ : ∃ ρ, a'.eval = ρ := ⟨_, rfl⟩
       have hcst : ∀ v, ρ (.const v) = v := fun v => (congrFun hρ (.const v)).symm
       have l2 : ρ (.tmp 2) = .slice aw n cw := (congrFun hρ (.tmp 2)).symm.trans (HF.out.lo 2 rfl)
       rw [if_pos (by simp [Region.wanted])]
       unfold Oper.wp
       rw [hρ]
       clear hρ
       go_simp
       exact hK.out _ _ ⟨HVA.out.set (i := 2) (by rw [HVV.out]; rfl), (by simp only [updV_ne (xs := xs) (show (7 : Nat) ≠ 2 by decide), updV_ne (xs := xs) (show (8 : Nat) ≠ 2 by decide), updV_ne (xs := xs) (show (9 : Nat) ≠ 2 by decide), updV_ne (xs := xs) (show (10 : Nat) ≠ 2 by decide), updV_ne (xs := xs) (show (11 : Nat) ≠ 2 by decide), updV_ne (xs := xs) (show (12 : Nat) ≠ 2 by decide), updV_ne (xs := xs) (show (13 : Nat) ≠ 2 by decide)]; exact hA)⟩
      focus
       clear hd
       obtain ⟨ρ, hρ⟩ : ∃ ρ, a'.eval = ρ := ⟨_, rfl⟩
       have hcst : ∀ v, ρ (.const v) = v := fun v => (congrFun hρ (.const v)).symm
       have l9 : ρ (.tmp 9) = .slice (some ⟨bL, oL, none⟩) PL.length cL := (congrFun hρ (.tmp 9)).symm.trans (HF.out.lo 9 rfl)
       rw [if_pos (by simp [Region.wanted])]
       unfold Oper.wp
       rw [hρ]
       clear hρ
       go_simp
       exact hK.out _ _ ⟨HVA.out.set (i := 3) (by rw [HVV.out]; rfl), (by simp only [updV_ne (xs := xs) (show (7 : Nat) ≠ 3 by decide), updV_ne (xs := xs) (show (8 : Nat) ≠ 3 by decide), updV_ne (xs := xs) (show (9 : Nat) ≠ 3 by decide), updV_ne (xs := xs) (show (10 : Nat) ≠ 3 by decide), updV_ne (xs := xs) (show (11 : Nat) ≠ 3 by decide), updV_ne (xs := xs) (show (12 : Nat) ≠ 3 by decide), updV_ne (xs := xs) (show (13 : Nat) ≠ 3 by decide)]; exact hA)⟩
      focus
       clear hd
       obtain ⟨ρ, hρ⟩ : ∃ ρ, a'.eval = ρ := ⟨_, rfl⟩
       have hcst : ∀ v, ρ (.const v) = v := fun v => (congrFun hρ (.const v)).symm
       have l10 : ρ (.tmp 10) = .int .i64 (j : Int) := (congrFun hρ (.tmp 10)).symm.trans (HF.out.lo 10 rfl)
       rw [if_pos (by simp [Region.wanted])]
       unfold Oper.wp
       rw [hρ]
       clear hρ
       go_simp
       exact hK.out _ _ ⟨HVA.out.set (i := 4) (by rw [HVV.out]; rfl), (by simp only [updV_ne (xs := xs) (show (7 : Nat) ≠ 4 by decide), updV_ne (xs := xs) (show (8 : Nat) ≠ 4 by decide), updV_ne (xs := xs) (show (9 : Nat) ≠ 4 by decide), updV_ne (xs := xs) (show (10 : Nat) ≠ 4 by decide), updV_ne (xs := xs) (show (11 : Nat) ≠ 4 by decide), updV_ne (xs := xs) (show (12 : Nat) ≠ 4 by decide), updV_ne (xs := xs) (show (13 : Nat) ≠ 4 by decide)]; exact hA)⟩
      focus
       obtain ⟨d3, d4, _⟩ := hd
       obtain ⟨ρ, hρ⟩ : ∃ ρ, a'.eval = ρ := ⟨_, rfl⟩
       have hcst : ∀ v, ρ (.const v) = v := fun v => (congrFun hρ (.const v)).symm
       have v3 : ρ (.tmp 57) = .slice (some ⟨bL, oL, none⟩) PL.length cL := (congrFun hρ (.tmp 57)).symm.trans ((HF.out.ev 3 rfl d3).trans (HVA.out 3 _ (by rw [HVV.out]; rfl) d3))
       have v4 : ρ (.tmp 58) = .int .i64 (j : Int) := (congrFun hρ (.tmp 58)).symm.trans ((HF.out.ev 4 rfl d4).trans (HVA.out 4 _ (by rw [HVV.out]; rfl) d4))
       rw [if_pos (by simp [Region.wanted])]
       unfold Oper.wp
       rw [hρ]
       clear hρ
       go_simp
       exact hK.out _ _ ⟨HVA.out.set (i := 5) (by rw [HVV.out]; rfl), (by simp only [updV_ne (xs := xs) (show (7 : Nat) ≠ 5 by decide), updV_ne (xs := xs) (show (8 : Nat) ≠ 5 by decide), updV_ne (xs := xs) (show (9 : Nat) ≠ 5 by decide), updV_ne (xs := xs) (show (10 : Nat) ≠ 5 by decide), updV_ne (xs := xs) (show (11 : Nat) ≠ 5 by decide), updV_ne (xs := xs) (show (12 : Nat) ≠ 5 by decide), updV_ne (xs := xs) (show (13 : Nat) ≠ 5 by decide)]; exact hA)⟩
      focus
       obtain ⟨d5, _⟩ := hd
       obtain ⟨ρ, hρ⟩ : ∃ ρ, a'.eval = ρ := ⟨_, rfl⟩
       have hcst : ∀ v, ρ (.const v) = v := fun v => (congrFun hρ (.const v)).symm
       have v5 : ρ (.tmp 59) = .pointer (some ⟨bL, oL + j, none⟩) := (congrFun hρ (.tmp 59)).symm.trans ((HF.out.ev 5 rfl d5).trans (HVA.out 5 _ (by rw [HVV.out]; rfl) d5))
       obtain ⟨k0, k1, k2⟩ := HKB.out _ hA.hb
       rw [if_pos (by simp [Region.wanted])]
       unfold Oper.wp
       rw [hρ]
       clear hρ
       go_simp
       exact hK.out _ _ ⟨HVA.out.set (i := 6) (by rw [HVV.out]; rfl), (by simp only [updV_ne (xs := xs) (show (7 : Nat) ≠ 6 by decide), updV_ne (xs := xs) (show (8 : Nat) ≠ 6 by decide), updV_ne (xs := xs) (show (9 : Nat) ≠ 6 by decide), updV_ne (xs := xs) (show (10 : Nat) ≠ 6 by decide), updV_ne (xs := xs) (show (11 : Nat) ≠ 6 by decide), updV_ne (xs := xs) (show (12 : Nat) ≠ 6 by decide), updV_ne (xs := xs) (show (13 : Nat) ≠ 6 by decide)]; exact hA)⟩
      focus
       obtain ⟨d2, d6, _⟩ := hd
       obtain ⟨ρ, hρ⟩ : ∃ ρ, a'.eval = ρ := ⟨_, rfl⟩
       have hcst : ∀ v, ρ (.const v) = v := fun v => (congrFun hρ (.const v)).symm
       have hfun : ∀ k, ρ (.func k) = .func (.func k) #[] #[] := fun k => (congrFun hρ (.func k)).symm
       have v2 : ρ (.tmp 56) = .slice aw n cw := (congrFun hρ (.tmp 56)).symm.trans ((HF.out.ev 2 rfl d2).trans (HVA.out 2 _ (by rw [HVV.out]; rfl) d2))
       have v6 : ρ (.tmp 60) = .slice ar (rowAt PL j).length cr := (congrFun hρ (.tmp 60)).symm.trans ((HF.out.ev 6 rfl d6).trans (HVA.out 6 _ (by rw [HVV.out]; rfl) d6))
       rw [if_pos (by simp [Region.wanted])]
       unfold Oper.wp
       rw [hρ]
       clear hρ
       go_simp
       go_at_call 60
       refine (HWI.out _ hA.hb).mono ?_
       rintro e w5 ⟨v5, rfl, hm, hb5⟩
       exact hK.out _ _ ⟨HVA.out.free (i := 7) (by rw [HVV.out]; rfl) _, (by simp only [updV_ne (xs := xs) (show (8 : Nat) ≠ 7 by decide), updV_ne (xs := xs) (show (9 : Nat) ≠ 7 by decide), updV_ne (xs := xs) (show (10 : Nat) ≠ 7 by decide), updV_ne (xs := xs) (show (11 : Nat) ≠ 7 by decide), updV_ne (xs := xs) (show (12 : Nat) ≠ 7 by decide), updV_ne (xs := xs) (show (13 : Nat) ≠ 7 by decide), updV_self]; exact hA.s7 HL7.out HL8.out hb5 hm)⟩
      focus
       obtain ⟨d0, d1, d7, _, _⟩ := hd
       obtain ⟨ρ, hρ⟩ : ∃ ρ, a'.eval = ρ := ⟨_, rfl⟩
       have hcst : ∀ v, ρ (.const v) = v := fun v => (congrFun hρ (.const v)).symm
       have hfun : ∀ k, ρ (.func k) = .func (.func k) #[] #[] := fun k => (congrFun hρ (.func k)).symm
       have v0 : ρ (.tmp 54) = .agg #[.int .i64 f.senders, .slice (some ⟨b, off, none⟩) f.lots.length cap] := (congrFun hρ (.tmp 54)).symm.trans ((HF.out.ev 0 rfl d0).trans (HVA.out 0 _ (by rw [HVV.out]; rfl) d0))
       have v1 : ρ (.tmp 55) = .slice az zs.length cz := (congrFun hρ (.tmp 55)).symm.trans ((HF.out.ev 1 rfl d1).trans (HVA.out 1 _ (by rw [HVV.out]; rfl) d1))
       have v7 : ρ (.tmp 61) = xs 7 := (congrFun hρ (.tmp 61)).symm.trans (HF.out.ev 7 rfl d7)
       rw [if_pos (by simp [Region.wanted])]
       unfold Oper.wp
       rw [hρ]
       clear hρ
       go_simp
       go_at_call 37
       refine (HFI.out _ _ hA.hb (hA.h7 d7)).mono ?_
       rintro e w5 ⟨v5, rfl, hm, hb5⟩
       exact hK.out _ _ ⟨HVA.out.free (i := 8) (by rw [HVV.out]; rfl) _, (by simp only [updV_ne (xs := xs) (show (7 : Nat) ≠ 8 by decide), updV_ne (xs := xs) (show (9 : Nat) ≠ 8 by decide), updV_ne (xs := xs) (show (10 : Nat) ≠ 8 by decide), updV_ne (xs := xs) (show (11 : Nat) ≠ 8 by decide), updV_ne (xs := xs) (show (12 : Nat) ≠ 8 by decide), updV_ne (xs := xs) (show (13 : Nat) ≠ 8 by decide), updV_self]; exact hA.s8 HLI.out HL7.out HL8.out hb5 hm)⟩
      focus
       obtain ⟨d8, _⟩ := hd
       obtain ⟨ρ, hρ⟩ : ∃ ρ, a'.eval = ρ := ⟨_, rfl⟩
       have hcst : ∀ v, ρ (.const v) = v := fun v => (congrFun hρ (.const v)).symm
       have v8 : ρ (.tmp 62) = xs 8 := (congrFun hρ (.tmp 62)).symm.trans (HF.out.ev 8 rfl d8)
       rw [if_pos (by simp [Region.wanted])]
       unfold Oper.wp
       rw [hρ]
       clear hρ
       go_simp
       exact hK.out _ _ ⟨HVA.out.free (i := 9) (by rw [HVV.out]; rfl) _, (by simp only [updV_ne (xs := xs) (show (7 : Nat) ≠ 9 by decide), updV_ne (xs := xs) (show (8 : Nat) ≠ 9 by decide), updV_ne (xs := xs) (show (10 : Nat) ≠ 9 by decide), updV_ne (xs := xs) (show (11 : Nat) ≠ 9 by decide), updV_ne (xs := xs) (show (12 : Nat) ≠ 9 by decide), updV_ne (xs := xs) (show (13 : Nat) ≠ 9 by decide), updV_self]; exact hA.s9 d8)⟩
      focus
       obtain ⟨d9, _⟩ := hd
       obtain ⟨ρ, hρ⟩ : ∃ ρ, a'.eval = ρ := ⟨_, rfl⟩
       have hcst : ∀ v, ρ (.const v) = v := fun v => (congrFun hρ (.const v)).symm
       have v9 : ρ (.tmp 53) = xs 9 := (congrFun hρ (.tmp 53)).symm.trans (HF.out.ev 9 rfl d9)
       rw [if_pos (by simp [Region.wanted])]
       unfold Oper.wp
       rw [hρ]
       clear hρ
       obtain ⟨u, e9, _⟩ := hA.at9 d9
       rw [e9] at v9
       go_simp
       exact hK.out _ _ ⟨HVA.out.free (i := 10) (by rw [HVV.out]; rfl) _, (by simp only [updV_ne (xs := xs) (show (7 : Nat) ≠ 10 by decide), updV_ne (xs := xs) (show (8 : Nat) ≠ 10 by decide), updV_ne (xs := xs) (show (9 : Nat) ≠ 10 by decide), updV_ne (xs := xs) (show (11 : Nat) ≠ 10 by decide), updV_ne (xs := xs) (show (12 : Nat) ≠ 10 by decide), updV_ne (xs := xs) (show (13 : Nat) ≠ 10 by decide), updV_self]; exact hA.s10 d9 e9)⟩
      focus
       obtain ⟨d9, _⟩ := hd
       obtain ⟨ρ, hρ⟩ : ∃ ρ, a'.eval = ρ := ⟨_, rfl⟩
       have hcst : ∀ v, ρ (.const v) = v := fun v => (congrFun hρ (.const v)).symm
       have v9 : ρ (.tmp 53) = xs 9 := (congrFun hρ (.tmp 53)).symm.trans (HF.out.ev 9 rfl d9)
       rw [if_pos (by simp [Region.wanted])]
       unfold Oper.wp
       rw [hρ]
       clear hρ
       obtain ⟨u, e9, _⟩ := hA.at9 d9
       rw [e9] at v9
       go_simp
       exact hK.out _ _ ⟨HVA.out.free (i := 11) (by rw [HVV.out]; rfl) _, (by simp only [updV_ne (xs := xs) (show (7 : Nat) ≠ 11 by decide), updV_ne (xs := xs) (show (8 : Nat) ≠ 11 by decide), updV_ne (xs := xs) (show (9 : Nat) ≠ 11 by decide), updV_ne (xs := xs) (show (10 : Nat) ≠ 11 by decide), updV_ne (xs := xs) (show (12 : Nat) ≠ 11 by decide), updV_ne (xs := xs) (show (13 : Nat) ≠ 11 by decide), updV_self]; exact hA.s11 d9)⟩
      focus
       obtain ⟨d10, d8, d0, d1, d2, d3, d4, d5, d6, d7, _, d9, _, _⟩ := hd
       obtain ⟨ρ, hρ⟩ : ∃ ρ, a'.eval = ρ := ⟨_, rfl⟩
       have hcst : ∀ v, ρ (.const v) = v := fun v => (congrFun hρ (.const v)).symm
       have v10 : ρ (.tmp 63) = xs 10 := (congrFun hρ (.tmp 63)).symm.trans (HF.out.ev 10 rfl d10)
       rw [if_pos (by simp [Region.wanted])]
       unfold Oper.wp
       rw [hρ]
       clear hρ
       go_simp
       exact hK.out _ _ ⟨HVA.out.free (i := 12) (by rw [HVV.out]; rfl) _, (by simp only [updV_ne (xs := xs) (show (7 : Nat) ≠ 12 by decide), updV_ne (xs := xs) (show (8 : Nat) ≠ 12 by decide), updV_ne (xs := xs) (show (9 : Nat) ≠ 12 by decide), updV_ne (xs := xs) (show (10 : Nat) ≠ 12 by decide), updV_ne (xs := xs) (show (11 : Nat) ≠ 12 by decide), updV_ne (xs := xs) (show (13 : Nat) ≠ 12 by decide), updV_self]; exact hA.s12 d10)⟩
      focus
       obtain ⟨d11, d12, d0, d1, d2, d3, d4, d5, d6, d7, d8, d9, d10, _, _, _⟩ := hd
       obtain ⟨ρ, hρ⟩ : ∃ ρ, a'.eval = ρ := ⟨_, rfl⟩
       have hcst : ∀ v, ρ (.const v) = v := fun v => (congrFun hρ (.const v)).symm
       have v11 : ρ (.tmp 64) = xs 11 := (congrFun hρ (.tmp 64)).symm.trans (HF.out.ev 11 rfl d11)
       rw [if_pos (by simp [Region.wanted])]
       unfold Oper.wp
       rw [hρ]
       clear hρ
       obtain ⟨u, e9, _, e11, _⟩ := hA.at9 (hA.c11 d11)
       rw [e11 d11] at v11
       go_simp
       exact hK.out _ _ ⟨HVA.out.free (i := 13) (by rw [HVV.out]; rfl) _, (by simp only [updV_ne (xs := xs) (show (7 : Nat) ≠ 13 by decide), updV_ne (xs := xs) (show (8 : Nat) ≠ 13 by decide), updV_ne (xs := xs) (show (9 : Nat) ≠ 13 by decide), updV_ne (xs := xs) (show (10 : Nat) ≠ 13 by decide), updV_ne (xs := xs) (show (11 : Nat) ≠ 13 by decide), updV_ne (xs := xs) (show (12 : Nat) ≠ 13 by decide), updV_self]; exact hA.s13 d11)⟩
     focus
      intro L w' xs hL hJ
      obtain ⟨hv, hA⟩ := hJ
      have e0 : xs 0 = .agg #[.int .i64 f.senders, .slice (some ⟨b, off, none⟩) f.lots.length cap] := hv 0 _ (by rw [HVV.out]; rfl) (hL 0 (by decide))
      have e1 : xs 1 = .slice az zs.length cz := hv 1 _ (by rw [HVV.out]; rfl) (hL 1 (by decide))
      have e2 : xs 2 = .slice aw n cw := hv 2 _ (by rw [HVV.out]; rfl) (hL 2 (by decide))
      have e3 : xs 3 = .slice (some ⟨bL, oL, none⟩) PL.length cL := hv 3 _ (by rw [HVV.out]; rfl) (hL 3 (by decide))
      have e4 : xs 4 = .int .i64 (j : Int) := hv 4 _ (by rw [HVV.out]; rfl) (hL 4 (by decide))
      have e5 : xs 5 = .pointer (some ⟨bL, oL + j, none⟩) := hv 5 _ (by rw [HVV.out]; rfl) (hL 5 (by decide))
      have e6 : xs 6 = .slice ar (rowAt PL j).length cr := hv 6 _ (by rw [HVV.out]; rfl) (hL 6 (by decide))
      simp only [putGo, Act.put, List.setIfInBounds_toArray, List.set_cons_zero, List.set_cons_succ, e0, e1, e2, e3, e4, e5, e6]
      clear hv e0 e1 e2 e3 e4 e5 e6
      obtain ⟨u, e8, hP, _, _, _, e12, e13⟩ := hA.h8 (hL 8 (by decide))
      have f12 := e12 (hL 12 (by decide))
      have f13 := e13 (hL 13 (by decide))
      have hb := hA.hb
      simp only [f12, f13]
      clear e8 e12 e13 f12 f13 hL hA
      obtain ⟨WB, rfl⟩ : ∃ W', W' = w' := ⟨_, rfl⟩
      have HBB : Hid (Below W1.heap.size W1 WB) := Lib.hid (HBR.out.trans (hb.mono HBR.out.size))
      have HP := Lib.hid hP
      clear hb hP
      cases R
      ·go_wp2
       go_roundw
       case rel =>
        refine ⟨j + 1, by omega, by go_num, fun t ht => ?_, HBB.out⟩
        by_cases e : t = j
        ·subst e; exact HNN.out rfl
        ·exact HNO.out t (by omega)
       case measure => simp [intOf]; omega
      ·obtain ⟨y1, y2⟩ := HFS.out rfl
       have HY1 := Lib.hid y1
       have HY2 := Lib.hid y2
       clear y1 y2
       go_wp2
       go_ret2
       exact ⟨_, by rw [HY1.out]; rfl, by rw [HY2.out]; exact HP.out, HW1.out.trans (HBB.out.mono HW1.out.size)⟩
    ·obtain rfl : j = PL.length := by omega
     obtain ⟨y1, y2⟩ := findV_none (f := f) (zs := zs) (m := m) (W := W) HLQ.out HNO.out
     have HY1 := Lib.hid y1
     have HY2 := Lib.hid y2
     clear y1 y2
     go_wp2
     go_ret2
     exact ⟨.slice none 0 0, by rw [HY1.out]; rfl, by rw [HY2.out]; exact ⟨0, 0, 0, ⟨none, rfl, Nat.le_refl _, by omega, .inr rfl⟩, by simp, fun j hj => by simp at hj⟩, HW1.out.trans (HBR.out.mono HW1.out.size)⟩
  ·rw [hkn] at c2
   have HLP1 : Hid (permsOf (lotAt f.lots n) = [(lotAt f.lots n).perm]) := Lib.hid (by rw [HLPE.out, hkn]; rfl)
   clear hkn
   go_wp2
   refine wp_name (fun W1 hW1 => ?_)
   have HW1 : Hid (Below w.heap.size w W1) := Lib.hid (by rw [hW1]; exact (box_below' w _).trans ((box_below' _ _).mono (by simp)))
   have HX1 : Hid (Box W1 w.heap.size #[.int .i64 f.senders, .slice (some ⟨b, off, none⟩) f.lots.length cap]) := Lib.hid (by rw [hW1]; exact (Box.new w #[.int .i64 f.senders, .slice (some ⟨b, off, none⟩) f.lots.length cap] 24).alloc _)
   have HLM : Hid (IsMat W1.heap.size W1 (.slice (some ⟨w.heap.size + 1, 0, none⟩) 1 1) [(lotAt f.lots n).perm]) := Lib.hid (by
    have h1 := (HLP0.out.below HW1.out hB).mono (Nat.le_trans hB HW1.out.size)
    have hbx : Box W1 (w.heap.size + 1) #[.slice ap (lotAt f.lots n).perm.length cp] := by
     rw [hW1]
     have h := Box.new (w.alloc (.cells #[.int .i64 f.senders, .slice (some ⟨b, off, none⟩) f.lots.length cap] 24)) #[.slice ap (lotAt f.lots n).perm.length cp] 25
     rw [World.size_alloc] at h
     exact h
    exact litMat1 hbx hbx.1 h1)
   obtain ⟨PL, hL⟩ : ∃ PL, [(lotAt f.lots n).perm] = PL := ⟨_, rfl⟩
   obtain ⟨vL, hvL⟩ : ∃ v, Value.slice (some ⟨w.heap.size + 1, 0, none⟩) 1 1 = v := ⟨_, rfl⟩
   rw [hvL] at HLM ⊢
   rw [hL] at HLM HLP1
   have hpf : PL.length ≤ 40320 := by rw [← hL]; simp
   have HLQ := Lib.hid (HLQ0.out PL HLP1.out)
   have HLP : Hid (permsOf (lotAt f.lots W.length) = PL) := Lib.hid (by rw [HN.out.1]; exact HLP1.out)
   clear hvL hL hW1 c1 c2 c3
   obtain ⟨bb, oo, cL, ⟨aL, rfl, _⟩, _⟩ := id HLM.out
   go_loopw [10] (fun i wr => ∃ j : Nat, j ≤ PL.length ∧ i = .int .i64 j ∧ (∀ t, t < j → findM f zs m (W ++ [rowAt PL t]) = none) ∧ Below W1.heap.size W1 wr) (fun i _ => PL.length - (intOf i).toNat)
   case atStart => exact ⟨0, by omega, rfl, fun t ht => by omega, Below.refl _ _⟩
   case round =>
    obtain ⟨j, hj, rfl, hnone, hbr⟩ := hrel
    have HNO := Lib.hid hnone
    have HBR := Lib.hid hbr
    clear hnone hbr
    by_cases hlt : j < PL.length
    ·have HWR : Hid (Below w.heap.size w wr) := Lib.hid (HW1.out.trans (HBR.out.mono HW1.out.size))
     have HXR := Lib.hid (HX1.out.ext HBR.out)
     obtain ⟨bL, oL, rfl, hrow⟩ := HLM.out.cells (by omega)
     obtain ⟨r, hr1, hr2⟩ := hrow j hlt
     obtain ⟨ar, cr, rfl⟩ := hr2.form
     have HROW := Lib.hid hr2
     have HWM : Hid (∀ W', Below wr.heap.size wr W' → IsMat wr.heap.size W' (.slice aw n cw) W) := Lib.hid fun W' hW => ((HW.out.below (HWR.out.trans (hW.mono HWR.out.size)) hB).mono (Nat.le_trans hB HWR.out.size))
     have HKB : Hid (∀ W', Below wr.heap.size wr W' → W'.cell? ⟨w.heap.size, 0, none⟩ = some (.int .i64 f.senders) ∧ W'.cell? ⟨w.heap.size, 1, none⟩ = some (.slice (some ⟨b, off, none⟩) f.lots.length cap) ∧ W'.cell? ⟨bL, oL + j, none⟩ = some (.slice ar (rowAt PL j).length cr)) := Lib.hid fun W' hW =>
      ⟨(HXR.out.ext hW).2 0, (HXR.out.ext hW).2 1, ((hr1.below HBR.out (Nat.le_refl _)).below hW HBR.out.size).2⟩
     have HROW2 : Hid (∀ W', Below wr.heap.size wr W' → IsInts wr.heap.size W' (.slice ar (rowAt PL j).length cr) (rowAt PL j)) := Lib.hid fun W' hW => ((HROW.out.below HBR.out (Nat.le_refl _)).below hW HBR.out.size).mono HBR.out.size
     have HWI : Hid (∀ W', Below wr.heap.size wr W' → Calls Try.prog 60 #[.slice aw n cw, .slice ar (rowAt PL j).length cr] W' fun e w' => ∃ v', e = .returned v' ∧ IsMat w'.heap.size w' v' (W ++ [rowAt PL j]) ∧ Below W'.heap.size W' w') := Lib.hid fun W' hW =>
      with29_any wr.heap.size W' _ _ W (rowAt PL j) (HWM.out W' hW) (HROW2.out W' hW) hW.size (by have := HN.out; omega)
     have hpm : rowAt PL j ∈ permsOf (lotAt f.lots W.length) := by rw [HLP.out]; exact rowE_mem hlt
     have HFI : Hid (∀ W' v7, Below wr.heap.size wr W' → IsMat W'.heap.size W' v7 (W ++ [rowAt PL j]) → Calls Try.prog 37 #[.agg #[.int .i64 f.senders, .slice (some ⟨b, off, none⟩) f.lots.length cap], .slice az zs.length cz, v7] W' fun e w' => ∃ v, e = .returned (.tuple #[v, .bool (findM f zs m (W ++ [rowAt PL j])).isSome]) ∧ IsMat w'.heap.size w' v (findV f zs m (W ++ [rowAt PL j])) ∧ Below W'.heap.size W' w') := Lib.hid fun W' v7 hW h7 => by
      have hWW := HWR.out.trans (hW.mono HWR.out.size)
      exact HIH.out W'.heap.size W' _ _ _ v7 (W ++ [rowAt PL j]) ((HF.out.below hWW hB).mono (Nat.le_trans hB hWW.size)) ((HZ.out.below hWW hB).mono (Nat.le_trans hB hWW.size)) h7 (Nat.le_refl _) (by have := HN.out; have := HM.out; simp; omega) (by have h := way_app rfl HO.out hpm; simpa using h)
     have HFS := Lib.hid (fun hs => findV_some (f := f) (zs := zs) (m := m) (W := W) HLQ.out hlt HNO.out hs)
     obtain ⟨RV, hRV⟩ : ∃ R, findV f zs m (W ++ [rowAt PL j]) = R := ⟨_, rfl⟩
     have HNN : Hid ((findM f zs m (W ++ [rowAt PL j])).isSome = false → findM f zs m (W ++ [rowAt PL j]) = none) := Lib.hid fun h => by
      cases e : findM f zs m (W ++ [rowAt PL j]) with
      | none => rfl
      | some v => rw [e] at h; cases h
     obtain ⟨R, hR⟩ : ∃ R, (findM f zs m (W ++ [rowAt PL j])).isSome = R := ⟨_, rfl⟩
     rw [hRV, hR] at HFI HFS
     rw [hR] at HNN
     have HL7 := Lib.hid (lasts_mat (W ++ [rowAt PL j]))
     have HL8 := Lib.hid (lasts_mat RV)
     obtain ⟨WA, rfl⟩ : ∃ W', W' = wr := ⟨_, rfl⟩
     clear hr1 hr2 hrow hpm hRV hR
     go_upto_region 10 with fail
     obtain ⟨V, hV⟩ : ∃ V : List (Option Value), V = [some (.agg #[.int .i64 f.senders, .slice (some ⟨b, off, none⟩) f.lots.length cap]), some (.slice az zs.length cz), some (.slice aw n cw), some (.slice (some ⟨bL, oL, none⟩) PL.length cL), some (.int .i64 (j : Int)), some (.pointer (some ⟨bL, oL + j, none⟩)), some (.slice ar (rowAt PL j).length cr), none, none, none, none, none, none, none] := ⟨_, rfl⟩
     have HVV := Lib.hid hV
     clear hV
     refine wp_region_V [some 54, some 55, some 56, some 57, some 58, some 59, some 60, some 61, some 62, some 53, some 63, some 64, some 11, some 12] (fun L w' xs => ValsAt V L xs ∧ (TwoC WA (fun w v => IsMat w.heap.size w v (W ++ [rowAt PL j])) (fun w v => IsMat w.heap.size w v RV) (.bool R) (L 7) (L 8) (L 9) (L 10) (L 11) (L 12) (L 13) (xs 7) (xs 8) (xs 9) (xs 10) (xs 11) (xs 12) (xs 13) w')) (by kernel_rfl) (by kernel_rfl) (by rfl) (by rfl) (by rfl) ?_ ?_ ?_
     focus
      exact fun xs => ⟨ValsAt.none _ _, TwoC.start (Below.refl _ _).drew⟩
     focus
      refine ⟨?_, ?_, ?_, ?_, ?_, ?_, ?_, ?_, ?_, ?_, ?_, ?_, ?_, ?_, trivial⟩
      all_goals
       intro L a' w' xs hi hd hf hJ K hK
       obtain ⟨hv, hA⟩ := hJ
       have HF := Lib.hid hf
       have HVA := Lib.hid hv
       have HLI := Lib.hid hi
       clear hf hv hi
      focus
       clear hd
       obtain ⟨ρ, hρ⟩ : ∃ ρ, a'.eval = ρ := ⟨_, rfl⟩
       have hcst : ∀ v, ρ (.const v) = v := fun v => (congrFun hρ (.const v)).symm
       have l3 : ρ (.tmp 3) = .pointer (some ⟨w.heap.size, 0, none⟩) := (congrFun hρ (.tmp 3)).symm.trans (HF.out.lo 3 rfl)
       obtain ⟨k0, k1, k2⟩ := HKB.out _ hA.hb
       rw [if_pos (by simp [Region.wanted])]
       unfold Oper.wp
       rw [hρ]
       clear hρ
       go_simp
       exact hK.out _ _ ⟨HVA.out.set (i := 0) (by rw [HVV.out]; rfl), (by simp only [updV_ne (xs := xs) (show (7 : Nat) ≠ 0 by decide), updV_ne (xs := xs) (show (8 : Nat) ≠ 0 by decide), updV_ne (xs := xs) (show (9 : Nat) ≠ 0 by decide), updV_ne (xs := xs) (show (10 : Nat) ≠ 0 by decide), updV_ne (xs := xs) (show (11 : Nat) ≠ 0 by decide), updV_ne (xs := xs) (show (12 : Nat) ≠ 0 by decide), updV_ne (xs := xs) (show (13 : Nat) ≠ 0 by decide)]; exact hA)⟩
      focus
       clear hd
       obtain ⟨ρ, hρ⟩ : ∃ ρ, a'.eval = ρ := ⟨_, rfl⟩
       have hcst : ∀ v, ρ (.const v) = v := fun v => (congrFun hρ (.const v)).symm
       have l1 : ρ (.tmp 1) = .slice az zs.length cz := (congrFun hρ (.tmp 1)).symm.trans (HF.out.lo 1 rfl)
       rw [if_pos (by simp [Region.wanted])]
       unfold Oper.wp
       rw [hρ]
       clear hρ
       go_simp
       exact hK.out _ _ ⟨HVA.out.set (i := 1) (by rw [HVV.out]; rfl), (by simp only [updV_ne (xs := xs) (show (7 : Nat) ≠ 1 by decide), updV_ne (xs := xs) (show (8 : Nat) ≠ 1 by decide), updV_ne (xs := xs) (show (9 : Nat) ≠ 1 by decide), updV_ne (xs := xs) (show (10 : Nat) ≠ 1 by decide), updV_ne (xs := xs) (show (11 : Nat) ≠ 1 by decide), updV_ne (xs := xs) (show (12 : Nat) ≠ 1 by decide), updV_ne (xs := xs) (show (13 : Nat) ≠ 1 by decide)]; exact hA)⟩
      focus
       clear hd
       obtain ⟨ρ, hρ⟩ : ∃ ρ, a'.eval = ρ := ⟨_, rfl⟩
       have hcst : ∀ v, ρ (.const v) = v := fun v => (congrFun hρ (.const v)).symm
       have l2 : ρ (.tmp 2) = .slice aw n cw := (congrFun hρ (.tmp 2)).symm.trans (HF.out.lo 2 rfl)
       rw [if_pos (by simp [Region.wanted])]
       unfold Oper.wp
       rw [hρ]
       clear hρ
       go_simp
       exact hK.out _ _ ⟨HVA.out.set (i := 2) (by rw [HVV.out]; rfl), (by simp only [updV_ne (xs := xs) (show (7 : Nat) ≠ 2 by decide), updV_ne (xs := xs) (show (8 : Nat) ≠ 2 by decide), updV_ne (xs := xs) (show (9 : Nat) ≠ 2 by decide), updV_ne (xs := xs) (show (10 : Nat) ≠ 2 by decide), updV_ne (xs := xs) (show (11 : Nat) ≠ 2 by decide), updV_ne (xs := xs) (show (12 : Nat) ≠ 2 by decide), updV_ne (xs := xs) (show (13 : Nat) ≠ 2 by decide)]; exact hA)⟩
      focus
       clear hd
       obtain ⟨ρ, hρ⟩ : ∃ ρ, a'.eval = ρ := ⟨_, rfl⟩
       have hcst : ∀ v, ρ (.const v) = v := fun v => (congrFun hρ (.const v)).symm
       have l9 : ρ (.tmp 9) = .slice (some ⟨bL, oL, none⟩) PL.length cL := (congrFun hρ (.tmp 9)).symm.trans (HF.out.lo 9 rfl)
       rw [if_pos (by simp [Region.wanted])]
       unfold Oper.wp
       rw [hρ]
       clear hρ
       go_simp
       exact hK.out _ _ ⟨HVA.out.set (i := 3) (by rw [HVV.out]; rfl), (by simp only [updV_ne (xs := xs) (show (7 : Nat) ≠ 3 by decide), updV_ne (xs := xs) (show (8 : Nat) ≠ 3 by decide), updV_ne (xs := xs) (show (9 : Nat) ≠ 3 by decide), updV_ne (xs := xs) (show (10 : Nat) ≠ 3 by decide), updV_ne (xs := xs) (show (11 : Nat) ≠ 3 by decide), updV_ne (xs := xs) (show (12 : Nat) ≠ 3 by decide), updV_ne (xs := xs) (show (13 : Nat) ≠ 3 by decide)]; exact hA)⟩
      focus
       clear hd
       obtain ⟨ρ, hρ⟩ : ∃ ρ, a'.eval = ρ := ⟨_, rfl⟩
       have hcst : ∀ v, ρ (.const v) = v := fun v => (congrFun hρ (.const v)).symm
       have l10 : ρ (.tmp 10) = .int .i64 (j : Int) := (congrFun hρ (.tmp 10)).symm.trans (HF.out.lo 10 rfl)
       rw [if_pos (by simp [Region.wanted])]
       unfold Oper.wp
       rw [hρ]
       clear hρ
       go_simp
       exact hK.out _ _ ⟨HVA.out.set (i := 4) (by rw [HVV.out]; rfl), (by simp only [updV_ne (xs := xs) (show (7 : Nat) ≠ 4 by decide), updV_ne (xs := xs) (show (8 : Nat) ≠ 4 by decide), updV_ne (xs := xs) (show (9 : Nat) ≠ 4 by decide), updV_ne (xs := xs) (show (10 : Nat) ≠ 4 by decide), updV_ne (xs := xs) (show (11 : Nat) ≠ 4 by decide), updV_ne (xs := xs) (show (12 : Nat) ≠ 4 by decide), updV_ne (xs := xs) (show (13 : Nat) ≠ 4 by decide)]; exact hA)⟩
      focus
       obtain ⟨d3, d4, _⟩ := hd
       obtain ⟨ρ, hρ⟩ : ∃ ρ, a'.eval = ρ := ⟨_, rfl⟩
       have hcst : ∀ v, ρ (.const v) = v := fun v => (congrFun hρ (.const v)).symm
       have v3 : ρ (.tmp 57) = .slice (some ⟨bL, oL, none⟩) PL.length cL := (congrFun hρ (.tmp 57)).symm.trans ((HF.out.ev 3 rfl d3).trans (HVA.out 3 _ (by rw [HVV.out]; rfl) d3))
       have v4 : ρ (.tmp 58) = .int .i64 (j : Int) := (congrFun hρ (.tmp 58)).symm.trans ((HF.out.ev 4 rfl d4).trans (HVA.out 4 _ (by rw [HVV.out]; rfl) d4))
       rw [if_pos (by simp [Region.wanted])]
       unfold Oper.wp
       rw [hρ]
       clear hρ
       go_simp
       exact hK.out _ _ ⟨HVA.out.set (i := 5) (by rw [HVV.out]; rfl), (by simp only [updV_ne (xs := xs) (show (7 : Nat) ≠ 5 by decide), updV_ne (xs := xs) (show (8 : Nat) ≠ 5 by decide), updV_ne (xs := xs) (show (9 : Nat) ≠ 5 by decide), updV_ne (xs := xs) (show (10 : Nat) ≠ 5 by decide), updV_ne (xs := xs) (show (11 : Nat) ≠ 5 by decide), updV_ne (xs := xs) (show (12 : Nat) ≠ 5 by decide), updV_ne (xs := xs) (show (13 : Nat) ≠ 5 by decide)]; exact hA)⟩
      focus
       obtain ⟨d5, _⟩ := hd
       obtain ⟨ρ, hρ⟩ : ∃ ρ, a'.eval = ρ := ⟨_, rfl⟩
       have hcst : ∀ v, ρ (.const v) = v := fun v => (congrFun hρ (.const v)).symm
       have v5 : ρ (.tmp 59) = .pointer (some ⟨bL, oL + j, none⟩) := (congrFun hρ (.tmp 59)).symm.trans ((HF.out.ev 5 rfl d5).trans (HVA.out 5 _ (by rw [HVV.out]; rfl) d5))
       obtain ⟨k0, k1, k2⟩ := HKB.out _ hA.hb
       rw [if_pos (by simp [Region.wanted])]
       unfold Oper.wp
       rw [hρ]
       clear hρ
       go_simp
       exact hK.out _ _ ⟨HVA.out.set (i := 6) (by rw [HVV.out]; rfl), (by simp only [updV_ne (xs := xs) (show (7 : Nat) ≠ 6 by decide), updV_ne (xs := xs) (show (8 : Nat) ≠ 6 by decide), updV_ne (xs := xs) (show (9 : Nat) ≠ 6 by decide), updV_ne (xs := xs) (show (10 : Nat) ≠ 6 by decide), updV_ne (xs := xs) (show (11 : Nat) ≠ 6 by decide), updV_ne (xs := xs) (show (12 : Nat) ≠ 6 by decide), updV_ne (xs := xs) (show (13 : Nat) ≠ 6 by decide)]; exact hA)⟩
      focus
       obtain ⟨d2, d6, _⟩ := hd
       obtain ⟨ρ, hρ⟩ : ∃ ρ, a'.eval = ρ := ⟨_, rfl⟩
       have hcst : ∀ v, ρ (.const v) = v := fun v => (congrFun hρ (.const v)).symm
       have hfun : ∀ k, ρ (.func k) = .func (.func k) #[] #[] := fun k => (congrFun hρ (.func k)).symm
       have v2 : ρ (.tmp 56) = .slice aw n cw := (congrFun hρ (.tmp 56)).symm.trans ((HF.out.ev 2 rfl d2).trans (HVA.out 2 _ (by rw [HVV.out]; rfl) d2))
       have v6 : ρ (.tmp 60) = .slice ar (rowAt PL j).length cr := (congrFun hρ (.tmp 60)).symm.trans ((HF.out.ev 6 rfl d6).trans (HVA.out 6 _ (by rw [HVV.out]; rfl) d6))
       rw [if_pos (by simp [Region.wanted])]
       unfold Oper.wp
       rw [hρ]
       clear hρ
       go_simp
       go_at_call 60
       refine (HWI.out _ hA.hb).mono ?_
       rintro e w5 ⟨v5, rfl, hm, hb5⟩
       exact hK.out _ _ ⟨HVA.out.free (i := 7) (by rw [HVV.out]; rfl) _, (by simp only [updV_ne (xs := xs) (show (8 : Nat) ≠ 7 by decide), updV_ne (xs := xs) (show (9 : Nat) ≠ 7 by decide), updV_ne (xs := xs) (show (10 : Nat) ≠ 7 by decide), updV_ne (xs := xs) (show (11 : Nat) ≠ 7 by decide), updV_ne (xs := xs) (show (12 : Nat) ≠ 7 by decide), updV_ne (xs := xs) (show (13 : Nat) ≠ 7 by decide), updV_self]; exact hA.s7 HL7.out HL8.out hb5 hm)⟩
      focus
       obtain ⟨d0, d1, d7, _, _⟩ := hd
       obtain ⟨ρ, hρ⟩ : ∃ ρ, a'.eval = ρ := ⟨_, rfl⟩
       have hcst : ∀ v, ρ (.const v) = v := fun v => (congrFun hρ (.const v)).symm
       have hfun : ∀ k, ρ (.func k) = .func (.func k) #[] #[] := fun k => (congrFun hρ (.func k)).symm
       have v0 : ρ (.tmp 54) = .agg #[.int .i64 f.senders, .slice (some ⟨b, off, none⟩) f.lots.length cap] := (congrFun hρ (.tmp 54)).symm.trans ((HF.out.ev 0 rfl d0).trans (HVA.out 0 _ (by rw [HVV.out]; rfl) d0))
       have v1 : ρ (.tmp 55) = .slice az zs.length cz := (congrFun hρ (.tmp 55)).symm.trans ((HF.out.ev 1 rfl d1).trans (HVA.out 1 _ (by rw [HVV.out]; rfl) d1))
       have v7 : ρ (.tmp 61) = xs 7 := (congrFun hρ (.tmp 61)).symm.trans (HF.out.ev 7 rfl d7)
       rw [if_pos (by simp [Region.wanted])]
       unfold Oper.wp
       rw [hρ]
       clear hρ
       go_simp
       go_at_call 37
       refine (HFI.out _ _ hA.hb (hA.h7 d7)).mono ?_
       rintro e w5 ⟨v5, rfl, hm, hb5⟩
       exact hK.out _ _ ⟨HVA.out.free (i := 8) (by rw [HVV.out]; rfl) _, (by simp only [updV_ne (xs := xs) (show (7 : Nat) ≠ 8 by decide), updV_ne (xs := xs) (show (9 : Nat) ≠ 8 by decide), updV_ne (xs := xs) (show (10 : Nat) ≠ 8 by decide), updV_ne (xs := xs) (show (11 : Nat) ≠ 8 by decide), updV_ne (xs := xs) (show (12 : Nat) ≠ 8 by decide), updV_ne (xs := xs) (show (13 : Nat) ≠ 8 by decide), updV_self]; exact hA.s8 HLI.out HL7.out HL8.out hb5 hm)⟩
      focus
       obtain ⟨d8, _⟩ := hd
       obtain ⟨ρ, hρ⟩ : ∃ ρ, a'.eval = ρ := ⟨_, rfl⟩
       have hcst : ∀ v, ρ (.const v) = v := fun v => (congrFun hρ (.const v)).symm
       have v8 : ρ (.tmp 62) = xs 8 := (congrFun hρ (.tmp 62)).symm.trans (HF.out.ev 8 rfl d8)
       rw [if_pos (by simp [Region.wanted])]
       unfold Oper.wp
       rw [hρ]
       clear hρ
       go_simp
       exact hK.out _ _ ⟨HVA.out.free (i := 9) (by rw [HVV.out]; rfl) _, (by simp only [updV_ne (xs := xs) (show (7 : Nat) ≠ 9 by decide), updV_ne (xs := xs) (show (8 : Nat) ≠ 9 by decide), updV_ne (xs := xs) (show (10 : Nat) ≠ 9 by decide), updV_ne (xs := xs) (show (11 : Nat) ≠ 9 by decide), updV_ne (xs := xs) (show (12 : Nat) ≠ 9 by decide), updV_ne (xs := xs) (show (13 : Nat) ≠ 9 by decide), updV_self]; exact hA.s9 d8)⟩
      focus
       obtain ⟨d9, _⟩ := hd
       obtain ⟨ρ, hρ⟩ : ∃ ρ, a'.eval = ρ := ⟨_, rfl⟩
       have hcst : ∀ v, ρ (.const v) = v := fun v => (congrFun hρ (.const v)).symm
       have v9 : ρ (.tmp 53) = xs 9 := (congrFun hρ (.tmp 53)).symm.trans (HF.out.ev 9 rfl d9)
       rw [if_pos (by simp [Region.wanted])]
       unfold Oper.wp
       rw [hρ]
       clear hρ
       obtain ⟨u, e9, _⟩ := hA.at9 d9
       rw [e9] at v9
       go_simp
       exact hK.out _ _ ⟨HVA.out.free (i := 10) (by rw [HVV.out]; rfl) _, (by simp only [updV_ne (xs := xs) (show (7 : Nat) ≠ 10 by decide), updV_ne (xs := xs) (show (8 : Nat) ≠ 10 by decide), updV_ne (xs := xs) (show (9 : Nat) ≠ 10 by decide), updV_ne (xs := xs) (show (11 : Nat) ≠ 10 by decide), updV_ne (xs := xs) (show (12 : Nat) ≠ 10 by decide), updV_ne (xs := xs) (show (13 : Nat) ≠ 10 by decide), updV_self]; exact hA.s10 d9 e9)⟩
      focus
       obtain ⟨d9, _⟩ := hd
       obtain ⟨ρ, hρ⟩ : ∃ ρ, a'.eval = ρ := ⟨_, rfl⟩
       have hcst : ∀ v, ρ (.const v) = v := fun v => (congrFun hρ (.const v)).symm
       have v9 : ρ (.tmp 53) = xs 9 := (congrFun hρ (.tmp 53)).symm.trans (HF.out.ev 9 rfl d9)
       rw [if_pos (by simp [Region.wanted])]
       unfold Oper.wp
       rw [hρ]
       clear hρ
       obtain ⟨u, e9, _⟩ := hA.at9 d9
       rw [e9] at v9
       go_simp
       exact hK.out _ _ ⟨HVA.out.free (i := 11) (by rw [HVV.out]; rfl) _, (by simp only [updV_ne (xs := xs) (show (7 : Nat) ≠ 11 by decide), updV_ne (xs := xs) (show (8 : Nat) ≠ 11 by decide), updV_ne (xs := xs) (show (9 : Nat) ≠ 11 by decide), updV_ne (xs := xs) (show (10 : Nat) ≠ 11 by decide), updV_ne (xs := xs) (show (12 : Nat) ≠ 11 by decide), updV_ne (xs := xs) (show (13 : Nat) ≠ 11 by decide), updV_self]; exact hA.s11 d9)⟩
      focus
       obtain ⟨d10, d8, d0, d1, d2, d3, d4, d5, d6, d7, _, d9, _, _⟩ := hd
       obtain ⟨ρ, hρ⟩ : ∃ ρ, a'.eval = ρ := ⟨_, rfl⟩
       have hcst : ∀ v, ρ (.const v) = v := fun v => (congrFun hρ (.const v)).symm
       have v10 : ρ (.tmp 63) = xs 10 := (congrFun hρ (.tmp 63)).symm.trans (HF.out.ev 10 rfl d10)
       rw [if_pos (by simp [Region.wanted])]
       unfold Oper.wp
       rw [hρ]
       clear hρ
       go_simp
       exact hK.out _ _ ⟨HVA.out.free (i := 12) (by rw [HVV.out]; rfl) _, (by simp only [updV_ne (xs := xs) (show (7 : Nat) ≠ 12 by decide), updV_ne (xs := xs) (show (8 : Nat) ≠ 12 by decide), updV_ne (xs := xs) (show (9 : Nat) ≠ 12 by decide), updV_ne (xs := xs) (show (10 : Nat) ≠ 12 by decide), updV_ne (xs := xs) (show (11 : Nat) ≠ 12 by decide), updV_ne (xs := xs) (show (13 : Nat) ≠ 12 by decide), updV_self]; exact hA.s12 d10)⟩
      focus
       obtain ⟨d11, d12, d0, d1, d2, d3, d4, d5, d6, d7, d8, d9, d10, _, _, _⟩ := hd
       obtain ⟨ρ, hρ⟩ : ∃ ρ, a'.eval = ρ := ⟨_, rfl⟩
       have hcst : ∀ v, ρ (.const v) = v := fun v => (congrFun hρ (.const v)).symm
       have v11 : ρ (.tmp 64) = xs 11 := (congrFun hρ (.tmp 64)).symm.trans (HF.out.ev 11 rfl d11)
       rw [if_pos (by simp [Region.wanted])]
       unfold Oper.wp
       rw [hρ]
       clear hρ
       obtain ⟨u, e9, _, e11, _⟩ := hA.at9 (hA.c11 d11)
       rw [e11 d11] at v11
       go_simp
       exact hK.out _ _ ⟨HVA.out.free (i := 13) (by rw [HVV.out]; rfl) _, (by simp only [updV_ne (xs := xs) (show (7 : Nat) ≠ 13 by decide), updV_ne (xs := xs) (show (8 : Nat) ≠ 13 by decide), updV_ne (xs := xs) (show (9 : Nat) ≠ 13 by decide), updV_ne (xs := xs) (show (10 : Nat) ≠ 13 by decide), updV_ne (xs := xs) (show (11 : Nat) ≠ 13 by decide), updV_ne (xs := xs) (show (12 : Nat) ≠ 13 by decide), updV_self]; exact hA.s13 d11)⟩
     focus
      intro L w' xs hL hJ
      obtain ⟨hv, hA⟩ := hJ
      have e0 : xs 0 = .agg #[.int .i64 f.senders, .slice (some ⟨b, off, none⟩) f.lots.length cap] := hv 0 _ (by rw [HVV.out]; rfl) (hL 0 (by decide))
      have e1 : xs 1 = .slice az zs.length cz := hv 1 _ (by rw [HVV.out]; rfl) (hL 1 (by decide))
      have e2 : xs 2 = .slice aw n cw := hv 2 _ (by rw [HVV.out]; rfl) (hL 2 (by decide))
      have e3 : xs 3 = .slice (some ⟨bL, oL, none⟩) PL.length cL := hv 3 _ (by rw [HVV.out]; rfl) (hL 3 (by decide))
      have e4 : xs 4 = .int .i64 (j : Int) := hv 4 _ (by rw [HVV.out]; rfl) (hL 4 (by decide))
      have e5 : xs 5 = .pointer (some ⟨bL, oL + j, none⟩) := hv 5 _ (by rw [HVV.out]; rfl) (hL 5 (by decide))
      have e6 : xs 6 = .slice ar (rowAt PL j).length cr := hv 6 _ (by rw [HVV.out]; rfl) (hL 6 (by decide))
      simp only [putGo, Act.put, List.setIfInBounds_toArray, List.set_cons_zero, List.set_cons_succ, e0, e1, e2, e3, e4, e5, e6]
      clear hv e0 e1 e2 e3 e4 e5 e6
      obtain ⟨u, e8, hP, _, _, _, e12, e13⟩ := hA.h8 (hL 8 (by decide))
      have f12 := e12 (hL 12 (by decide))
      have f13 := e13 (hL 13 (by decide))
      have hb := hA.hb
      simp only [f12, f13]
      clear e8 e12 e13 f12 f13 hL hA
      obtain ⟨WB, rfl⟩ : ∃ W', W' = w' := ⟨_, rfl⟩
      have HBB : Hid (Below W1.heap.size W1 WB) := Lib.hid (HBR.out.trans (hb.mono HBR.out.size))
      have HP := Lib.hid hP
      clear hb hP
      cases R
      ·go_wp2
       go_roundw
       case rel =>
        refine ⟨j + 1, by omega, by go_num, fun t ht => ?_, HBB.out⟩
        by_cases e : t = j
        ·subst e; exact HNN.out rfl
        ·exact HNO.out t (by omega)
       case measure => simp [intOf]; omega
      ·obtain ⟨y1, y2⟩ := HFS.out rfl
       have HY1 := Lib.hid y1
       have HY2 := Lib.hid y2
       clear y1 y2
       go_wp2
       go_ret2
       exact ⟨_, by rw [HY1.out]; rfl, by rw [HY2.out]; exact HP.out, HW1.out.trans (HBB.out.mono HW1.out.size)⟩
    ·obtain rfl : j = PL.length := by omega
     obtain ⟨y1, y2⟩ := findV_none (f := f) (zs := zs) (m := m) (W := W) HLQ.out HNO.out
     have HY1 := Lib.hid y1
     have HY2 := Lib.hid y2
     clear y1 y2
     go_wp2
     go_ret2
     exact ⟨.slice none 0 0, by rw [HY1.out]; rfl, by rw [HY2.out]; exact ⟨0, 0, 0, ⟨none, rfl, Nat.le_refl _, by omega, .inr rfl⟩, by simp, fun j hj => by simp at hj⟩, HW1.out.trans (HBR.out.mono HW1.out.size)⟩
end Go.Proofs.Yteiaeaciaglmgaa
set_option linter.unusedVariables false
set_option linter.unusedSimpArgs false
namespace Go.Proofs.Yteiaeaciaglmgaa
open Go.RowKit
def isP (f : Flow) (W : List (List Int)) (k : Nat) : Bool := permB (rowAt W k) (lotAt f.lots k).ins.length && (!(lotAt f.lots k).known || sameB (rowAt W k) (lotAt f.lots k).perm)
theorem isB_parts (f : Flow) (W : List (List Int)) : isB f W = (decide (W.length = f.lots.length) && allN (isP f W) f.lots.length) := rfl
theorem allN_false {p : Nat → Bool} {k n : Nat} (h : p k = false) (hk : k < n) : allN p n = false := by
 cases e : allN p n with
 | false => rfl
 | true => rw [allN_iff.1 e k hk] at h; cases h
theorem makeR_find {f : Flow} {zs : List Int} (he : errX f zs = 0) : findV f zs f.lots.length [] = makeR f zs ∧ (findM f zs f.lots.length []).isSome = makeB f zs := by
 unfold findV makeR makeB makeO
 rw [if_pos he]
 refine ⟨?_, rfl⟩
 split <;> rfl
set_option maxHeartbeats 4000000 in
set_option maxRecDepth 100000 in
/-- frankingref29.Make -/
theorem make29_any (B : Nat) (w : World) (vs vl va : Value) (f : Flow) (zs : List Int) (hf : IsFlow B w vs vl f) (hz : IsInts B w va zs) (hB : B ≤ w.heap.size) (h8 : checkE f = 0 → f.senders ≤ 8) :
  Calls Try.prog 12 #[.agg #[vs, vl], va] w fun e w' => ∃ v, e = .returned (.tuple #[v, .bool (makeB f zs), .int .i64 (errX f zs)]) ∧ IsMat w'.heap.size w' v (makeR f zs) ∧ Below w.heap.size w w' := by
 have HF := Lib.hid hf
 have HZ := Lib.hid hz
 have HE := Lib.hid (fun o => error29_any B (w.alloc o) _ _ _ f zs (HF.out.below (box_below hB o) (Nat.le_refl _)) (HZ.out.below (box_below hB o) (Nat.le_refl _)) (by simp; omega))
 obtain ⟨rfl, ⟨hs1, hs2⟩, hl'⟩ := hf
 obtain ⟨b, off, cap, ⟨a, rfl, hcap, hmax, ha⟩, hlen, hc⟩ := hl'
 obtain ⟨az, cz, rfl⟩ := hz.form
 clear hc ha hz
 by_cases he : errX f zs = 0
 ·have hcz := (errX_ok he).1
  have hmf := makeR_find he
  have HMF := Lib.hid hmf
  have HFI := Lib.hid (fun W (hW : Below w.heap.size w W) => find29_any f zs hcz (h8 hcz) f.lots.length W.heap.size W _ _ _ (.slice none 0 0) [] ((HF.out.below hW hB).mono (Nat.le_trans hB hW.size)) ((HZ.out.below hW hB).mono (Nat.le_trans hB hW.size)) ⟨0, 0, 0, ⟨none, rfl, Nat.le_refl _, by omega, .inr rfl⟩, by simp, fun j hj => by simp at hj⟩ (Nat.le_refl _) (by simp) (fun j hj => by simp at hj))
  rw [he] at HE ⊢
  rw [hmf.1, hmf.2] at HFI
  clear he hcz hmf h8
  obtain ⟨mb, hmb⟩ : ∃ x, makeB f zs = x := ⟨_, rfl⟩
  obtain ⟨mr, hmr⟩ : ∃ x, makeR f zs = x := ⟨_, rfl⟩
  rw [hmb] at HFI ⊢
  rw [hmr] at HFI ⊢
  clear hmb hmr
  go_enter Try.func12, Try.ntmps12
  go_wp2_with fail
  refine (HE.out _).mono ?_
  rintro e w1 ⟨rfl, hb1⟩
  have HX1 := Lib.hid ((Box.new w #[.int .i64 f.senders, .slice a f.lots.length cap] 24).ext hb1)
  have HW1 : Hid (Below w.heap.size w w1) := Lib.hid ((box_below' w _).trans (hb1.mono (by simp)))
  obtain ⟨z1, r1⟩ := HX1.out
  clear hb1
  go_wp2_with fail
  refine (HFI.out w1 HW1.out).mono ?_
  rintro e w2 ⟨v2, rfl, h2, hb2⟩
  have HM2 := Lib.hid h2
  have HW2 : Hid (Below w.heap.size w w2) := Lib.hid (HW1.out.trans (hb2.mono HW1.out.size))
  obtain ⟨b2, o2, c2, ⟨a2, rfl, _⟩, _⟩ := h2
  clear hb2 z1 r1
  go_wp2
  go_ret3
  exact ⟨_, rfl, HM2.out, HW2.out⟩
 ·have hem := err_make he
  have HEM := Lib.hid hem
  have he' : (errX f zs != 0) = true := by simpa using he
  clear he hem h8
  go_enter Try.func12, Try.ntmps12
  go_wp2_with fail
  refine (HE.out _).mono ?_
  rintro e w1 ⟨rfl, hb1⟩
  have HW1 : Hid (Below w.heap.size w w1) := Lib.hid ((box_below' w _).trans (hb1.mono (by simp)))
  clear hb1
  go_wp2
  go_ret3
  exact ⟨.slice none 0 0, by rw [HEM.out.1]; rfl, by rw [HEM.out.2.1]; exact ⟨0, 0, 0, ⟨none, rfl, Nat.le_refl _, by omega, .inr rfl⟩, by simp, fun j hj => by simp at hj⟩, HW1.out⟩
set_option maxHeartbeats 4000000 in
set_option maxRecDepth 100000 in
/-- frankingref29.Is -/
theorem is29_any (B : Nat) (w : World) (vs vl vw : Value) (f : Flow) (W : List (List Int)) (hf : IsFlow B w vs vl f) (hw : IsMat B w vw W) (hB : B ≤ w.heap.size) :
  Calls Try.prog 22 #[.agg #[vs, vl], vw] w fun e w' => e = .returned (.bool (isB f W)) ∧ Below w.heap.size w w' := by
 have HIB := Lib.hid (isB_parts f W)
 obtain ⟨rfl, ⟨hs1, hs2⟩, hl'⟩ := hf
 obtain ⟨b, off, cap, ⟨a, rfl, hcap, hmax, ha⟩, hlen, hc⟩ := hl'
 obtain ⟨bw, ow, cw, ⟨aw, rfl, hcapw, hmaxw, haw⟩, hlenw, hcw⟩ := hw
 have HC := Lib.hid hc
 have HA := Lib.hid ha
 have HCW := Lib.hid hcw
 have HAW := Lib.hid haw
 clear hc ha hcw haw
 by_cases hl : W.length = f.lots.length
 ·have hl2 : ((W.length : Int) != (f.lots.length : Int)) = false := by rw [hl]; simp
  have HIB2 : Hid (isB f W = allN (isP f W) f.lots.length) := Lib.hid (by rw [HIB.out, decide_eq_true hl, Bool.true_and])
  have HL := Lib.hid hl
  clear hl
  go_enter Try.func22, Try.ntmps22
  go_wp2
  refine wp_name (fun W1 hW1 => ?_)
  have HX1 : Hid (Box W1 w.heap.size #[.int .i64 f.senders, .slice a f.lots.length cap]) := Lib.hid (by rw [hW1]; exact Box.new w #[.int .i64 f.senders, .slice a f.lots.length cap] 24)
  have HW1 : Hid (Below w.heap.size w W1) := Lib.hid (by rw [hW1]; exact box_below' w _)
  clear hW1
  go_loopw [5] (fun i wr => ∃ k : Nat, k ≤ W.length ∧ i = .int .i64 k ∧ allN (isP f W) k = true ∧ Drew W1 wr) (fun i _ => W.length - (intOf i).toNat)
  case atStart => exact ⟨0, by omega, rfl, rfl, Drew.refl _⟩
  case round =>
   obtain ⟨k, hk, rfl, he, hd⟩ := hrel
   have HE := Lib.hid he
   have HD := Lib.hid hd
   clear he hd
   by_cases hlt : k < W.length
   ·have hkl : k < f.lots.length := by rw [← HL.out]; exact hlt
    obtain rfl : a = some ⟨b, off, none⟩ := by rcases HA.out with h | h; exact h; omega
    obtain rfl : aw = some ⟨bw, ow, none⟩ := by rcases HAW.out with h | h; exact h; omega
    obtain ⟨vi, vk, vp, q1, q2, q3, hli, rfl, hlp⟩ := HC.out k hkl
    obtain ⟨vr, hr1, hr2⟩ := HCW.out k hlt
    obtain ⟨ai, ci, rfl⟩ := hli.form
    obtain ⟨ap, cp, rfl⟩ := hlp.form
    obtain ⟨ar, cr, rfl⟩ := hr2.form
    have hBr : Below B w wr := (HW1.out.trans (HD.out.below _)).mono hB
    have c1 := (q1.below hBr (Nat.le_refl _)).2
    have c2 := (q2.below hBr (Nat.le_refl _)).2
    have c3 := (q3.below hBr (Nat.le_refl _)).2
    have c4 := (hr1.below hBr (Nat.le_refl _)).2
    have hxr := HX1.out.2 1
    have c5 := (HD.out.cell (a := ⟨w.heap.size, 1, none⟩)).trans hxr
    simp at c5
    have HPC := Lib.hid (fun m => perm_any B (wr.drewN m) (.slice ar (rowAt W k).length cr) (rowAt W k) ((lotAt f.lots k).ins.length : Int) (hr2.below (below_drewN hBr m) (Nat.le_refl _)))
    have HSC := Lib.hid (fun m => same_any B (wr.drewN m) (.slice ar (rowAt W k).length cr) (.slice ap (lotAt f.lots k).perm.length cp) (rowAt W k) (lotAt f.lots k).perm (hr2.below (below_drewN hBr m) (Nat.le_refl _)) (hlp.below (below_drewN hBr m) (Nat.le_refl _)))
    have HIP : Hid (isP f W k = (permB (rowAt W k) (lotAt f.lots k).ins.length && (!(lotAt f.lots k).known || sameB (rowAt W k) (lotAt f.lots k).perm))) := Lib.hid rfl
    have HST : Hid (isP f W k = true → allN (isP f W) (k + 1) = true) := Lib.hid fun h => by simp only [allN, HE.out, h]; rfl
    have HNO : Hid (isP f W k = false → isB f W = false) := Lib.hid fun h => by rw [HIB2.out]; exact allN_false h hkl
    have HWD : Hid (∀ n, Below w.heap.size w (wr.drewN n)) := Lib.hid fun n => below_drewN (HW1.out.trans (HD.out.below _)) n
    obtain ⟨pb, hpb⟩ : ∃ x, permB (rowAt W k) (lotAt f.lots k).ins.length = x := ⟨_, rfl⟩
    obtain ⟨sb, hsb⟩ : ∃ x, sameB (rowAt W k) (lotAt f.lots k).perm = x := ⟨_, rfl⟩
    obtain ⟨kb, hkb⟩ : ∃ x, (lotAt f.lots k).known = x := ⟨_, rfl⟩
    rw [hpb] at HPC HIP
    rw [hsb] at HSC HIP
    rw [hkb] at c2 HIP
    clear q1 q2 q3 hli hlp hr1 hr2 hpb hsb hkb hxr hBr
    cases pb
    ·have HR := Lib.hid (HNO.out (by rw [HIP.out]; rfl))
     go_wp2
     go_quiet ((go_at_call 50; exact Calls.quiet_of (HPC.out _)))
     go_wp2
     go_ret
     exact ⟨by rw [HR.out]; rfl, HWD.out _⟩
    ·cases kb
     ·have HR := Lib.hid (HST.out (by rw [HIP.out]; rfl))
      go_wp2
      go_quiet ((go_at_call 50; exact Calls.quiet_of (HPC.out _)))
      go_wp2
      go_roundw
      case rel => exact ⟨k + 1, by omega, by go_num, HR.out, HD.out.drewN _⟩
      case measure => simp [intOf]; omega
     ·cases sb
      ·have HR := Lib.hid (HNO.out (by rw [HIP.out]; rfl))
       go_wp2
       go_quiet ((first | (go_at_call 50; exact Calls.quiet_of (HPC.out _)) | (go_at_call 25; exact Calls.quiet_of (HSC.out _))))
       go_wp2
       go_ret
       exact ⟨by rw [HR.out]; rfl, HWD.out _⟩
      ·have HR := Lib.hid (HST.out (by rw [HIP.out]; rfl))
       go_wp2
       go_quiet ((first | (go_at_call 50; exact Calls.quiet_of (HPC.out _)) | (go_at_call 25; exact Calls.quiet_of (HSC.out _))))
       go_wp2
       go_roundw
       case rel => exact ⟨k + 1, by omega, by go_num, HR.out, HD.out.drewN _⟩
       case measure => simp [intOf]; omega
   ·have HR : Hid (isB f W = true) := Lib.hid (by rw [HIB2.out, ← HL.out, show W.length = k by omega]; exact HE.out)
    go_wp2
    go_ret
    exact ⟨by rw [HR.out]; rfl, HW1.out.trans (HD.out.below _)⟩
 ·have hl2 : ((W.length : Int) != (f.lots.length : Int)) = true := by simp; omega
  have HR : Hid (isB f W = false) := Lib.hid (by rw [HIB.out, decide_eq_false hl]; rfl)
  clear hl
  go_enter Try.func22, Try.ntmps22
  go_wp2
  go_ret
  exact ⟨by rw [HR.out]; rfl, box_below' _ _⟩
set_option maxHeartbeats 4000000 in
set_option maxRecDepth 100000 in
/-- frankingref29.Check -/
theorem rcheck29_any (B : Nat) (w : World) (vs vl va vw : Value) (f : Flow) (zs : List Int) (W : List (List Int)) (hf : IsFlow B w vs vl f) (hz : IsInts B w va zs) (hw : IsMat B w vw W) (hB : B ≤ w.heap.size) :
  Calls Try.prog 14 #[.agg #[vs, vl], va, vw] w fun e w' => e = .returned (.tuple #[.bool (rightW f zs W), .int .i64 (errX f zs)]) ∧ Below w.heap.size w w' := by
 have HF := Lib.hid hf
 have HZ := Lib.hid hz
 have HW := Lib.hid hw
 have HE := Lib.hid (fun o => error29_any B (w.alloc o) _ _ _ f zs (HF.out.below (box_below hB o) (Nat.le_refl _)) (HZ.out.below (box_below hB o) (Nat.le_refl _)) (by simp; omega))
 have HR : Hid (rightW f zs W = (decide (errX f zs = 0) && (isB f W && leadsB f zs W))) := Lib.hid rfl
 have HIS := Lib.hid (fun W' (hW : Below w.heap.size w W') => is29_any B W' _ _ _ f W (HF.out.below hW hB) (HW.out.below hW hB) (Nat.le_trans hB hW.size))
 have HLE := Lib.hid (fun (hc : checkE f = 0) (hl : W.length = f.lots.length) (ho : WayOk f W f.lots.length) W' (hW : Below w.heap.size w W') => leads29_any B W' _ _ _ _ f zs W (HF.out.below hW hB) (HZ.out.below hW hB) (HW.out.below hW hB) (Nat.le_trans hB hW.size) hc hl ho)
 obtain ⟨rfl, ⟨hs1, hs2⟩, hl'⟩ := hf
 obtain ⟨b, off, cap, ⟨a, rfl, hcap, hmax, ha⟩, hlen, hc⟩ := hl'
 obtain ⟨az, cz, rfl⟩ := hz.form
 obtain ⟨bw, ow, cw, ⟨aw, rfl, _⟩, _⟩ := hw
 clear hc ha hz
 by_cases he : errX f zs = 0
 ·have HEX := Lib.hid he
  rw [he] at HE ⊢
  have HR2 : Hid (rightW f zs W = (isB f W && leadsB f zs W)) := Lib.hid (by rw [HR.out, he]; rfl)
  clear he
  go_enter Try.func14, Try.ntmps14
  go_wp2_with fail
  refine (HE.out _).mono ?_
  rintro e w1 ⟨rfl, hb1⟩
  have HX1 := Lib.hid ((Box.new w #[.int .i64 f.senders, .slice a f.lots.length cap] 24).ext hb1)
  have HW1 : Hid (Below w.heap.size w w1) := Lib.hid ((box_below' w _).trans (hb1.mono (by simp)))
  obtain ⟨z1, r1⟩ := HX1.out
  clear hb1
  go_wp2_with fail
  refine (HIS.out w1 HW1.out).mono ?_
  rintro e w2 ⟨rfl, hb2⟩
  have HX2 := Lib.hid (HX1.out.ext hb2)
  have HW2 : Hid (Below w.heap.size w w2) := Lib.hid (HW1.out.trans (hb2.mono HW1.out.size))
  clear hb2 z1 r1
  cases hib : isB f W
  ·have HR3 : Hid (rightW f zs W = false) := Lib.hid (by rw [HR2.out, hib]; rfl)
   clear hib
   go_wp2
   go_ret2
   exact ⟨by rw [HR3.out]; rfl, HW2.out⟩
  ·have hc0 := (errX_ok HEX.out).1
   obtain ⟨i1, i2⟩ := (isB_iff (checkE_ok hc0).2.2.2.2).1 hib
   have HLD := Lib.hid (HLE.out hc0 i1 i2 w2 HW2.out)
   have HR3 : Hid (rightW f zs W = leadsB f zs W) := Lib.hid (by rw [HR2.out, hib]; rfl)
   obtain ⟨z2, r2⟩ := HX2.out
   clear hib hc0 i1 i2
   go_wp2_with fail
   refine HLD.out.mono ?_
   rintro e w3 ⟨rfl, hb3⟩
   have HW3 : Hid (Below w.heap.size w w3) := Lib.hid (HW2.out.trans (hb3.mono HW2.out.size))
   clear hb3
   go_wp2
   go_ret2
   exact ⟨by rw [HR3.out]; rfl, HW3.out⟩
 ·have HR3 : Hid (rightW f zs W = false) := Lib.hid (by rw [HR.out, decide_eq_false he]; rfl)
  have he' : (errX f zs != 0) = true := by simpa using he
  clear he
  go_enter Try.func14, Try.ntmps14
  go_wp2_with fail
  refine (HE.out _).mono ?_
  rintro e w1 ⟨rfl, hb1⟩
  have HW1 : Hid (Below w.heap.size w w1) := Lib.hid ((box_below' w _).trans (hb1.mono (by simp)))
  clear hb1
  go_wp2
  go_ret2
  exact ⟨by rw [HR3.out]; rfl, HW1.out⟩
end Go.Proofs.Yteiaeaciaglmgaa
set_option linter.unusedVariables false
set_option linter.unusedSimpArgs false
namespace Go.Proofs.Yteiaeaciaglmgaa
open Go.RowKit
theorem IsIntsX.ints {X : Nat → Prop} {w : World} {v : Value} {xs : List Int} (h : IsIntsX X w v xs) : IsInts w.heap.size w v xs := by
 obtain ⟨b, off, cap, h1, h2, h3, h4⟩ := h
 exact ⟨b, off, cap, h1, h2, h3, fun j hj => ⟨(h4 j hj).2.1, (h4 j hj).2.2⟩⟩
def IsMatX (X : Nat → Prop) (w : World) (v : Value) (rows : List (List Int)) : Prop :=
 ∃ b off cap, SliceV v rows.length b off cap ∧ rows.length ≤ 5864062014634 ∧ ∀ j, j < rows.length → ∃ r, X b ∧ b < w.heap.size ∧ w.cell? ⟨b, off + j, none⟩ = some r ∧ IsIntsX X w r (rowAt rows j)
theorem IsIntsX.kept {X : Nat → Prop} {w w' : World} {v : Value} {xs : List Int} (h : IsIntsX X w v xs) (hz : w.heap.size ≤ w'.heap.size) (hk : ∀ q, X q → q < w.heap.size → w'.heap[q]? = w.heap[q]?) : IsIntsX X w' v xs := by
 obtain ⟨b, off, cap, h1, h2, h3, h4⟩ := h
 refine ⟨b, off, cap, h1, h2, h3, fun j hj => ?_⟩
 obtain ⟨a, c, d⟩ := h4 j hj
 exact ⟨a, by omega, (World.cell?_of_block (a := ⟨b, off + j, none⟩) (hk b a c)).trans d⟩
theorem IsMatX.kept {X : Nat → Prop} {w w' : World} {v : Value} {rows : List (List Int)} (h : IsMatX X w v rows) (hz : w.heap.size ≤ w'.heap.size) (hk : ∀ q, X q → q < w.heap.size → w'.heap[q]? = w.heap[q]?) : IsMatX X w' v rows := by
 obtain ⟨b, off, cap, h1, h2, h3⟩ := h
 refine ⟨b, off, cap, h1, h2, fun j hj => ?_⟩
 obtain ⟨r, a, c, d, e⟩ := h3 j hj
 exact ⟨r, a, by omega, (World.cell?_of_block (a := ⟨b, off + j, none⟩) (hk b a c)).trans d, e.kept hz hk⟩
theorem IsMatX.below {X : Nat → Prop} {w w' : World} {v : Value} {rows : List (List Int)} (h : IsMatX X w v rows) (hb : Below w.heap.size w w') : IsMatX X w' v rows := h.kept hb.size (fun q _ hq => hb.block q hq)
theorem IsIntsX.belowX {X : Nat → Prop} {w w' : World} {v : Value} {xs : List Int} (h : IsIntsX X w v xs) (hb : Below w.heap.size w w') : IsIntsX X w' v xs := h.kept hb.size (fun q _ hq => hb.block q hq)
theorem IsMatX.setCell {X : Nat → Prop} {w : World} {v : Value} {rows : List (List Int)} (h : IsMatX X w v rows) {a : Addr} (ha : ¬ X a.block) (u : Value) : IsMatX X (w.setCell a u) v rows :=
 h.kept (by simp [World.setCell]) (fun q hq hz => Below.heap_setCell w a u q (fun e => ha (e ▸ hq)))
theorem IsMatX.mat {X : Nat → Prop} {w : World} {v : Value} {rows : List (List Int)} (h : IsMatX X w v rows) : IsMat w.heap.size w v rows := by
 obtain ⟨b, off, cap, h1, h2, h3⟩ := h
 refine ⟨b, off, cap, h1, h2, fun j hj => ?_⟩
 obtain ⟨r, a, c, d, e⟩ := h3 j hj
 exact ⟨r, ⟨c, d⟩, e.ints⟩
theorem IsMatX.form {X : Nat → Prop} {w : World} {v : Value} {rows : List (List Int)} (h : IsMatX X w v rows) : ∃ a c, v = .slice a rows.length c := by
 obtain ⟨b, off, cap, ⟨a, rfl, _⟩, _⟩ := h
 exact ⟨a, cap, rfl⟩
theorem IsIntsX.form {X : Nat → Prop} {w : World} {v : Value} {xs : List Int} (h : IsIntsX X w v xs) : ∃ a c, v = .slice a xs.length c := by
 obtain ⟨b, off, cap, ⟨a, rfl, _⟩, _⟩ := h
 exact ⟨a, cap, rfl⟩
theorem IsMatX.nil (X : Nat → Prop) (w : World) : IsMatX X w (.slice none 0 0) [] := ⟨0, 0, 0, ⟨none, rfl, Nat.le_refl _, by omega, .inr rfl⟩, by simp, fun j hj => by simp at hj⟩
theorem IsIntsX.nil (X : Nat → Prop) (w : World) : IsIntsX X w (.slice none 0 0) [] := ⟨0, 0, 0, ⟨none, rfl, Nat.le_refl _, by omega, .inr rfl⟩, by simp, by simp, fun j hj => by simp at hj⟩
def rowRX (X : Nat → Prop) (B : Nat) (w : World) (c : List Value) (d : List Int) : Prop := ∃ v, c = [v] ∧ IsIntsX (fun q => q < B ∧ X q) w v d
theorem IsMatX.recs {X : Nat → Prop} {L : Nat} {w : World} {v : Value} {rows : List (List Int)} (h : IsMatX X w v rows) (hL : rows.length ≤ L) : IsRecs 1 (rowRX X) L [] w.heap.size w v rows := by
 obtain ⟨b, off, cap, h1, h2, h3⟩ := h
 refine ⟨b, off, cap, h1, hL, fun j hj => ?_⟩
 obtain ⟨r, a, c, d, e⟩ := h3 j hj
 refine ⟨[r], fun q u hq => ?_, r, rfl, ?_⟩
 ·obtain ⟨rfl, rfl⟩ : q = 0 ∧ r = u := by
   match q, hq with
   | 0, hq => exact ⟨rfl, by simpa using hq⟩
   | q + 1, hq => simp at hq
  rw [Nat.mul_one]
  exact ⟨c, d⟩
 ·obtain ⟨b', off', cap', g1, g2, g3, g4⟩ := e
  exact ⟨b', off', cap', g1, g2, g3, fun i hi => ⟨⟨(g4 i hi).2.1, (g4 i hi).1⟩, (g4 i hi).2⟩⟩
end Go.Proofs.Yteiaeaciaglmgaa
set_option linter.unusedVariables false
set_option linter.unusedSimpArgs false
namespace Go.Proofs.Yteiaeaciaglmgaa
open Go.RowKit
theorem IsMatX.old {X Y : Nat → Prop} {w : World} {v : Value} {rows : List (List Int)} (h : IsMatX X w v rows) (hY : ∀ q, X q → q < w.heap.size → Y q) : IsMatX Y w v rows := by
 obtain ⟨b, off, cap, h1, h2, h3⟩ := h
 refine ⟨b, off, cap, h1, h2, fun j hj => ?_⟩
 obtain ⟨r, a, c, d, b', off', cap', g1, g2, g3, g4⟩ := h3 j hj
 exact ⟨r, hY _ a c, c, d, b', off', cap', g1, g2, g3, fun i hi => ⟨hY _ (g4 i hi).1 (g4 i hi).2.1, (g4 i hi).2⟩⟩
theorem IsIntsX.old {X Y : Nat → Prop} {w : World} {v : Value} {xs : List Int} (h : IsIntsX X w v xs) (hY : ∀ q, X q → q < w.heap.size → Y q) : IsIntsX Y w v xs := by
 obtain ⟨b', off', cap', g1, g2, g3, g4⟩ := h
 exact ⟨b', off', cap', g1, g2, g3, fun i hi => ⟨hY _ (g4 i hi).1 (g4 i hi).2.1, (g4 i hi).2⟩⟩
end Go.Proofs.Yteiaeaciaglmgaa
set_option linter.unusedVariables false
set_option linter.unusedSimpArgs false
namespace Go.Proofs.Yteiaeaciaglmgaa
open Go.RowKit
structure DecR (C c4 : Nat) (w0 w1 : World) (vW : Value) (part : List Int) (p : Int) (f2 f5 f7 f8 f10 : Bool) (x2 x5 x7 x8 : Value) (w : World) : Prop where
 hb : Below C w0 w
 hC : C ≤ c4 ∧ c4 < w1.heap.size
 sz : w1.heap.size ≤ w.heap.size
 ho : ∀ k, k < w1.heap.size → k ≠ c4 → w.heap[k]? = w1.heap[k]?
 h2 : f2 = true → f5 = false → OwnInts w1.heap.size w x2 []
 h5 : f5 = true → f8 = false → OwnInts w1.heap.size w x5 part
 h7 : f7 = true → f8 = false → ∃ q, x7 = .slice (some ⟨q, 0, none⟩) 1 1 ∧ w1.heap.size ≤ q ∧ CellsN w q #[.int .i64 p] ∧ (f2 = true → f5 = false → x2.ownBlock ≠ some q) ∧ (f5 = true → x5.ownBlock ≠ some q)
 h8 : f8 = true → OwnInts w1.heap.size w x8 (part ++ [p])
 c5 : f5 = true → f2 = true
 c8 : f8 = true → f5 = true ∧ f7 = true
 c10 : f10 = true → f8 = true
 hc : f10 = false → CellsN w c4 #[.slice none 0 0, .slice none 0 0]
 he : f10 = true → CellsN w c4 #[vW, x8]
theorem OwnInts.ltX {B : Nat} {w : World} {v : Value} {xs : List Int} (h : OwnInts B w v xs) : ∀ k, v.ownBlock = some k → B ≤ k ∧ k < w.heap.size := h.1.lt
section
variable {C c4 : Nat} {w0 w1 : World} {vW : Value} {part : List Int} {p : Int} {f2 f5 f7 f8 f10 : Bool} {x2 x5 x7 x8 : Value} {w : World}
theorem DecR.start (hb : Below C w0 w1) (hC : C ≤ c4) (hc : CellsN w1 c4 #[.slice none 0 0, .slice none 0 0]) (n : Nat) : DecR C c4 w0 w1 vW part p false false false false false x2 x5 x7 x8 (w1.drewN n) :=
 {
  hb := hb.trans (below_drewN (Below.refl _ _) n), hC := ⟨hC, hc.lt⟩, sz := Nat.le_refl _, ho := (fun k _ _ => rfl), h2 := (fun h => by cases h), h5 := (fun h => by cases h), h7 := (fun h => by cases h), h8 := (fun h => by cases h),
  c5 := (fun h => by cases h), c8 := (fun h => by cases h), c10 := (fun h => by cases h), hc := (fun _ => hc), he := (fun h => by cases h) }
variable (h : DecR C c4 w0 w1 vW part p f2 f5 f7 f8 f10 x2 x5 x7 x8 w)
include h
theorem DecR.n5 (e : f2 = false) : f5 = false := by
 cases e5 : f5 with
 | false => rfl
 | true => have := h.c5 e5; rw [e] at this; cases this
theorem DecR.n8 (e : f5 = false ∨ f7 = false) : f8 = false := by
 cases e5 : f8 with
 | false => rfl
 | true => have := h.c8 e5; rcases e with e | e <;> simp [e] at this
theorem DecR.n10 (e : f8 = false) : f10 = false := by
 cases e5 : f10 with
 | false => rfl
 | true => have := h.c10 e5; rw [e] at this; cases this
theorem DecR.s2 (hi : f2 = false) {x : Value} (he : x = .slice (some ⟨w.heap.size, 0, none⟩) 0 0) : DecR C c4 w0 w1 vW part p true f5 f7 f8 f10 x x5 x7 x8 (w.alloc (.cells #[] 3)) := by
 have e5 := h.n5 hi
 have e8 := h.n8 (.inl e5)
 have e10 := h.n10 e8
 subst e5 e8 e10
 have hz := h.sz
 have hCz := Nat.le_trans h.hC.1 (Nat.le_of_lt h.hC.2)
 exact {
  hb := h.hb.alloc (by omega) _, hC := h.hC, sz := (by simp; omega), ho := (fun k hk h1 => ((box_below' w (.cells #[] 3)).block k (by omega)).trans (h.ho k hk h1)),
  h2 := (fun _ _ => by rw [he]; exact OwnInts.made hz), h5 := (fun e => by cases e),
  h7 := (fun e e' => by
   obtain ⟨q, a1, a2, a3, a4, a5⟩ := h.h7 e e'
   exact ⟨q, a1, a2, a3.alloc _, (fun _ _ e2 => by rw [he] at e2; have := a3.lt; simp [Value.ownBlock] at e2; omega), a5⟩),
  h8 := (fun e => by cases e), c5 := (fun e => by cases e), c8 := (fun e => by cases e), c10 := (fun e => by cases e), hc := (fun _ => (h.hc rfl).alloc _), he := (fun e => by cases e) }
theorem DecR.s7 (hi : f7 = false) {x : Value} (he : x = .slice (some ⟨w.heap.size, 0, none⟩) 1 1) : DecR C c4 w0 w1 vW part p f2 f5 true f8 f10 x2 x5 x x8 (w.alloc (.cells #[.int .i64 p] 3)) := by
 have e8 := h.n8 (.inr hi)
 have e10 := h.n10 e8
 subst e8 e10
 have hz := h.sz
 have hCz := Nat.le_trans h.hC.1 (Nat.le_of_lt h.hC.2)
 exact {
  hb := h.hb.alloc (by omega) _, hC := h.hC, sz := (by simp; omega), ho := (fun k hk h1 => ((box_below' w (.cells #[.int .i64 p] 3)).block k (by omega)).trans (h.ho k hk h1)),
  h2 := (fun e e' => (h.h2 e e').alloc _), h5 := (fun e e' => (h.h5 e e').alloc _),
  h7 := (fun _ _ => ⟨_, he, hz, CellsN.new w _ _, (fun e e' e2 => by have := ((h.h2 e e').ltX _ e2).2; omega), (fun e e2 => by have := ((h.h5 e rfl).ltX _ e2).2; omega)⟩),
  h8 := (fun e => by cases e), c5 := h.c5, c8 := (fun e => by cases e), c10 := (fun e => by cases e), hc := (fun _ => (h.hc rfl).alloc _), he := (fun e => by cases e) }
theorem DecR.s8 (hi : f8 = false) (hf5 : f5 = true) (hf7 : f7 = true) {v' : Value} {w' : World} (ho : OwnInts w1.heap.size w' v' (part ++ [p])) (hg : w.grownBy w' x5.ownBlock) : DecR C c4 w0 w1 vW part p f2 f5 f7 true f10 x2 x5 x7 v' w' := by
 have e10 := h.n10 hi
 subst e10 hi hf5 hf7
 have hz := h.sz
 have hCz := Nat.le_trans h.hC.1 (Nat.le_of_lt h.hC.2)
 have hl := (h.h5 rfl rfl).ltX
 exact {
  hb := h.hb.grown hg (by omega) (fun k hk => by have := (hl k hk).1; omega), hC := h.hC, sz := Nat.le_trans hz hg.size, ho := (fun k hk h1 => (hg.block k (by omega) (fun e => by have := (hl k e.symm).1; omega)).trans (h.ho k hk h1)),
  h2 := (fun _ e => by cases e), h5 := (fun _ e => by cases e), h7 := (fun _ e => by cases e),
  h8 := (fun _ => ho), c5 := h.c5, c8 := (fun _ => ⟨rfl, rfl⟩), c10 := (fun e => by cases e), hc := (fun _ => (h.hc rfl).grown hg (fun e => by have := (hl _ e.symm).1; have := h.hC.2; omega)), he := (fun e => by cases e) }
theorem DecR.s10 (hi : f10 = false) (hf8 : f8 = true) : DecR C c4 w0 w1 vW part p f2 f5 f7 f8 true x2 x5 x7 x8 ((w.setCell ⟨c4, 0, none⟩ vW).setCell ⟨c4, 1, none⟩ x8) := by
 subst hi hf8
 obtain ⟨e5, e7⟩ := h.c8 rfl
 subst e5 e7
 have hz := h.sz
 have hg := grown_trans (grown_setCell w ⟨c4, 0, none⟩ vW) (grown_setCell _ ⟨c4, 1, none⟩ x8)
 have hne : x8.ownBlock = none ∨ x8.ownBlock ≠ some c4 := .inr fun e => by have := ((h.h8 rfl).ltX _ e).1; have := h.hC.2; omega
 exact {
  hb := (h.hb.setCell (p := ⟨c4, 0, none⟩) h.hC.1 _).setCell (p := ⟨c4, 1, none⟩) h.hC.1 _, hC := h.hC, sz := Nat.le_trans hz hg.size, ho := (fun k hk h1 => (hg.block k (by omega) (fun e => h1 (by simpa using e))).trans (h.ho k hk h1)),
  h2 := (fun _ e => by cases e), h5 := (fun _ e => by cases e), h7 := (fun _ e => by cases e),
  h8 := (fun _ => (h.h8 rfl).kept hg hne), c5 := h.c5, c8 := (fun _ => ⟨rfl, rfl⟩), c10 := (fun _ => rfl), hc := (fun e => by cases e), he := (fun _ => by simpa using ((h.hc rfl).set 0 vW).set 1 x8) }
/-- what other blocks hold -/
theorem DecR.cell {k i : Nat} (hk : k < w1.heap.size) (h1 : k ≠ c4) : w.cell? ⟨k, i, none⟩ = w1.cell? ⟨k, i, none⟩ := by
 simp only [World.cell?, h.ho k hk h1]
end
end Go.Proofs.Yteiaeaciaglmgaa
set_option linter.unusedVariables false
set_option linter.unusedSimpArgs false
namespace Go.Proofs.Yteiaeaciaglmgaa
open Go.RowKit
/-- where a letter goes in a lot whose first q inputs are decided -/
theorem mv_next {ins : List Int} (hn : ins.Nodup) {q : Nat} (hq : q < ins.length) (row : List Int) (b y : Int) :
  mvI (ins.take (q + 1)) row b y = if nth ins q = y then b + nth row q else mvI (ins.take q) row b y := by
 by_cases e : nth ins q = y
 ·rw [if_pos e]
  unfold mvI
  rw [← e, (idx_take hn (show q < q + 1 by omega) (by omega)).2, if_pos rfl, (idx_take hn (show q < q + 1 by omega) (by omega)).1]
 ·rw [if_neg e]
  unfold mvI
  have h1 : hasB (ins.take (q + 1)) y = hasB (ins.take q) y := by
   rw [Bool.eq_iff_iff, hasB_mem, hasB_mem, List.take_succ_eq_append_getElem hq, List.mem_append, List.mem_singleton, ← nth_lt hq]
   constructor
   ·rintro (h | h)
    ·exact h
    ·exact absurd h.symm e
   ·exact .inl
  rw [h1]
  by_cases hh : hasB (ins.take q) y = true
  ·rw [if_pos hh, if_pos hh]
   have h2 := take_idx hn (show q ≤ _ by omega) hh
   have h3 := take_idx hn (show q + 1 ≤ _ by omega) (h1.trans hh)
   rw [h2.2.1, h3.2.1]
  ·rw [if_neg hh, if_neg hh]
theorem mv_zero (ins row : List Int) (b y : Int) : mvI (ins.take 0) row b y = y := by simp [mvI, hasB]
end Go.Proofs.Yteiaeaciaglmgaa
set_option linter.unusedVariables false
set_option linter.unusedSimpArgs false
namespace Go.Proofs.Yteiaeaciaglmgaa
open Go.RowKit
theorem leastN_first {p : Nat → Bool} {n i : Nat} (hi : i < n) (hn : ∀ j, j < i → p j = false) (hp : p i = true) : leastN p n = i := by
 by_cases h : 0 ≤ leastN p n
 ·obtain ⟨j, h1, h2, h3, h4⟩ := leastN_pos h
  rw [h1]
  by_cases e : j < i
  ·rw [hn j e] at h3; cases h3
  ·by_cases e2 : i < j
   ·rw [h4 i e2] at hp; cases hp
   ·have : j = i := by omega
    rw [this]
 ·rw [leastN_neg (p := p) (n := n) (by omega) i hi] at hp; cases hp
theorem leastN_none {p : Nat → Bool} {n : Nat} (hn : ∀ j, j < n → p j = false) : leastN p n = -1 := by
 by_cases h : 0 ≤ leastN p n
 ·obtain ⟨j, h1, h2, h3, h4⟩ := leastN_pos h
  rw [hn j h2] at h3; cases h3
 ·have := (leastN_bd p n).1
  omega
end Go.Proofs.Yteiaeaciaglmgaa
set_option linter.unusedVariables false
set_option linter.unusedSimpArgs false
namespace Go.Proofs.Yteiaeaciaglmgaa
open Go.RowKit
def LK : Nat := 2932031007402
theorem den_inf : (Try.prog.info? 31).map (fun i => (i.zero, i.size, i.bytes)) = some (some (.agg #[.int .i64 0, .int .i64 0, .slice none 0 0, .int .i64 0]), 4, 48) := by kernel_rfl
/-- the cells read as a denial; all that they lead to lies in blocks of S -/
inductive DenS (S : Nat → Prop) (w : World) : List Value → Den → Prop
 | mk (l i s : Int) (kids : List Den) (vk : Value) (b off cap : Nat) (cs : Nat → List Value) (h1 : SliceV vk kids.length b off cap) (hL : kids.length ≤ LK) (hl : I64 l) (hi : I64 i) (hs : I64 s)
   (hc : ∀ j, j < kids.length → S b ∧ ∀ q u, (cs j)[q]? = some u → w.cell? ⟨b, off + j * 4 + q, none⟩ = some u)
   (hk : ∀ j, j < kids.length → DenS S w (cs j) (denAt kids j)) : DenS S w [.int .i64 l, .int .i64 i, vk, .int .i64 s] (.mk l i kids s)
theorem DenS.keep {S : Nat → Prop} {w w' : World} {c : List Value} {d : Den} (h : DenS S w c d) (hk : ∀ q, S q → w'.heap[q]? = w.heap[q]?) : DenS S w' c d := by
 induction h with
 | mk l i s kids vk b off cap cs h1 hL hl hi hs hc _ ih =>
  exact .mk l i s kids vk b off cap cs h1 hL hl hi hs (fun j hj => ⟨(hc j hj).1, fun q u hq => (World.cell?_of_block (a := ⟨b, off + j * 4 + q, none⟩) (hk b (hc j hj).1)).trans ((hc j hj).2 q u hq)⟩) ih
theorem DenS.mono {S S' : Nat → Prop} {w : World} {c : List Value} {d : Den} (h : DenS S w c d) (hS : ∀ q, S q → S' q) : DenS S' w c d := by
 induction h with
 | mk l i s kids vk b off cap cs h1 hL hl hi hs hc _ ih =>
  exact .mk l i s kids vk b off cap cs h1 hL hl hi hs (fun j hj => ⟨hS _ (hc j hj).1, (hc j hj).2⟩) ih
/-- what the cells are -/
theorem DenS.form {S : Nat → Prop} {w : World} {c : List Value} {d : Den} (h : DenS S w c d) : ∃ ak ck, c = [.int .i64 d.lot, .int .i64 d.inn, .slice ak d.kids.length ck, .int .i64 d.sender] ∧ I64 d.lot ∧ I64 d.inn ∧ I64 d.sender ∧ d.kids.length ≤ LK ∧
  ∃ b off, (ak = some ⟨b, off, none⟩ ∨ d.kids.length = 0) ∧ ∀ j, j < d.kids.length → S b ∧ ∃ cs, (∀ q u, cs[q]? = some u → w.cell? ⟨b, off + j * 4 + q, none⟩ = some u) ∧ DenS S w cs (denAt d.kids j) := by
 cases h with
 | mk l i s kids vk b off cap cs h1 hL hl hi hs hc hk =>
  obtain ⟨a, rfl, _, _, ha⟩ := h1
  exact ⟨a, cap, rfl, hl, hi, hs, hL, b, off, ha, fun j hj => ⟨(hc j hj).1, cs j, (hc j hj).2, hk j hj⟩⟩
theorem DenS.form6 {S : Nat → Prop} {w : World} {y0 y1 y2 y3 : Value} {d : Den} (h : DenS S w [y0, y1, y2, y3] d) : ∃ l0 l1 ak nk ck l3, y0 = .int .i64 l0 ∧ y1 = .int .i64 l1 ∧ y2 = .slice ak nk ck ∧ y3 = .int .i64 l3 := by
 obtain ⟨ak, ck, e, _⟩ := h.form
 simp only [List.cons.injEq, and_true] at e
 exact ⟨_, _, _, _, _, _, e⟩
theorem denSK : RecS 4 DenS :=
 {len := fun h => by obtain ⟨_, _, rfl, _⟩ := h.form; rfl
  one := fun h u hu => by
   obtain ⟨_, _, rfl, _⟩ := h.form
   simp only [List.mem_cons, List.not_mem_nil, or_false] at hu
   rcases hu with rfl | rfl | rfl | rfl <;> rfl
  keep := fun h hk => h.keep hk }
theorem DenS.zero (S : Nat → Prop) (w : World) : DenS S w [.int .i64 0, .int .i64 0, .slice none 0 0, .int .i64 0] noD :=
 .mk 0 0 0 [] (.slice none 0 0) 0 0 0 (fun _ => []) ⟨none, rfl, Nat.le_refl _, by omega, Or.inr rfl⟩ (by decide) (by unfold I64; omega) (by unfold I64; omega) (by unfold I64; omega) (fun j hj => by simp at hj) (fun j hj => by simp at hj)
theorem DenS.leaf (S : Nat → Prop) (w : World) {i : Int} (hi : I64 i) : DenS S w [.int .i64 (-1), .int .i64 0, .slice none 0 0, .int .i64 i] (leafD i) :=
 .mk (-1) 0 i [] (.slice none 0 0) 0 0 0 (fun _ => []) ⟨none, rfl, Nat.le_refl _, by omega, Or.inr rfl⟩ (by decide) (by unfold I64; omega) (by unfold I64; omega) hi (fun j hj => by simp at hj) (fun j hj => by simp at hj)
/-- a denial with children of the call's own -/
theorem OwnDeep.den {C : Nat} {w : World} {v : Value} {kids : List Den} (h : OwnDeep 31 4 DenS LK default C w v kids) {l i s : Int} (hl : I64 l) (hi : I64 i) (hs : I64 s) :
  DenS (fun q => C ≤ q ∧ q < w.heap.size) w [.int .i64 l, .int .i64 i, v, .int .i64 s] (.mk l i kids s) := by
 have hlt := h.lt
 have hr := h.isRecs denSK (R' := fun B w c d => True) (fun _ _ _ _ _ => trivial)
 obtain ⟨vals, ⟨hl', h1⟩, h2, h3, h4⟩ := h
 have hvl := OwnDeep.vals_len denSK h2 h4
 rcases h1 with ⟨rfl, hn⟩ | ⟨g, cap, cur, rfl, hb, hg, hnc, hcm, hcs, htk⟩
 ·exact .mk l i s kids _ 0 0 0 (fun _ => []) ⟨none, by rw [hn], by omega, by omega, Or.inr hn⟩ h3 hl hi hs (fun j hj => by omega) (fun j hj => by omega)
 ·have hgl := (Array.getElem?_eq_some_iff.1 hg).1
  refine .mk l i s kids _ g 0 cap (fun j => vals.getD j []) ⟨some ⟨g, 0, none⟩, rfl, hnc, by unfold maxLen at hcm; omega, Or.inl rfl⟩ h3 hl hi hs (fun j hj => ⟨hlt g rfl, fun q u hq => ?_⟩) (fun j hj => ?_)
  ·obtain ⟨S, s1, s2⟩ := h4 j hj
   have hq' : q < 4 := by
    have h5 := denSK.len s2
    have := (List.getElem?_eq_some_iff.1 hq).1
    omega
   have hf := flat_getK hvl j q (by omega) hq'
   rw [hq] at hf
   have hlt2 : j * 4 + q < kids.length * 4 := by omega
   simp only [World.cell?, hg, Nat.zero_add]
   have : (cur.toList.take (kids.length * 4))[j * 4 + q]? = vals.flatten[j * 4 + q]? := by rw [htk]
   rw [List.getElem?_take, if_pos hlt2, hf] at this
   simpa using this
  ·obtain ⟨S, s1, s2⟩ := h4 j hj
   exact s2.mono (fun q hq => ⟨(s1 q hq).1, (s1 q hq).2.1⟩)
def zeroD : Array Value := #[.int .i64 0, .int .i64 0, .slice none 0 0, .int .i64 0]
/-- x4: the state; x5: the pair; x6: moved; x7, x8: its parts; x9: the box; x11: its second part -/
structure DenR (WA : World) (P7 : World → Value → Prop) (d : Den) (R : Bool) (b4 b5 b6 b7 b8 b9 b10 b11 : Bool) (x4 x5 x6 x7 x8 x9 x11 : Value) (w : World) : Prop where
 hb : Below WA.heap.size WA w
 h4 : b4 = true → b5 = false → P7 w x4
 h5 : b5 = true → ∃ c0 c1 c2 c3, ∃ S : Nat → Prop, (∀ q, S q → WA.heap.size ≤ q ∧ q < w.heap.size ∧ (b9 = true → x9 ≠ .pointer (some ⟨q, 0, none⟩))) ∧ DenS S w [c0, c1, c2, c3] d ∧ x5 = .tuple #[.agg #[c0, c1, c2, c3], .bool R] ∧
  (b6 = true → x6 = .tuple #[.agg #[c0, c1, c2, c3], .bool R]) ∧ (b7 = true → x7 = .agg #[c0, c1, c2, c3]) ∧ (b8 = true → x8 = .bool R) ∧ (b11 = true → x11 = .bool R) ∧ (b10 = true → ∃ q, x9 = .pointer (some ⟨q, 0, none⟩) ∧ CellsN w q #[c0, c1, c2, c3])
 h9 : b9 = true → ∃ q, x9 = .pointer (some ⟨q, 0, none⟩) ∧ WA.heap.size ≤ q ∧ q < w.heap.size ∧ (b10 = false → CellsN w q zeroD)
 c6 : b6 = true → b5 = true
 c7 : b7 = true → b6 = true
 c8 : b8 = true → b6 = true
 c10 : b10 = true → b7 = true ∧ b9 = true
 c11 : b11 = true → b8 = true
section
variable {WA : World} {P7 : World → Value → Prop} {d : Den} {R : Bool} {b4 b5 b6 b7 b8 b9 b10 b11 : Bool} {x4 x5 x6 x7 x8 x9 x11 : Value} {w : World}
theorem DenR.start (hb : Below WA.heap.size WA w) : DenR WA P7 d R false false false false false false false false x4 x5 x6 x7 x8 x9 x11 w :=
 {hb := hb, h4 := (fun h => by cases h), h5 := (fun h => by cases h), h9 := (fun h => by cases h), c6 := (fun h => by cases h), c7 := (fun h => by cases h), c8 := (fun h => by cases h), c10 := (fun h => by cases h), c11 := (fun h => by cases h) }
variable (h : DenR WA P7 d R b4 b5 b6 b7 b8 b9 b10 b11 x4 x5 x6 x7 x8 x9 x11 w)
include h
theorem DenR.n (e : b5 = false) : b6 = false ∧ b7 = false ∧ b8 = false ∧ b10 = false ∧ b11 = false := by
 have h6 : b6 = false := by
  cases e5 : b6 with
  | false => rfl
  | true => have := h.c6 e5; rw [e] at this; cases this
 have h7 : b7 = false := by
  cases e5 : b7 with
  | false => rfl
  | true => have := h.c7 e5; rw [h6] at this; cases this
 have h8 : b8 = false := by
  cases e5 : b8 with
  | false => rfl
  | true => have := h.c8 e5; rw [h6] at this; cases this
 refine ⟨h6, h7, h8, ?_, ?_⟩
 ·cases e5 : b10 with
  | false => rfl
  | true => have := (h.c10 e5).1; rw [h7] at this; cases this
 ·cases e5 : b11 with
  | false => rfl
  | true => have := h.c11 e5; rw [h8] at this; cases this
theorem DenR.s7 (d6 : b6 = true) {c0 c1 c2 c3 : Value} (he : x6 = .tuple #[.agg #[c0, c1, c2, c3], .bool R]) : DenR WA P7 d R b4 b5 b6 true b8 b9 b10 b11 x4 x5 x6 (.agg #[c0, c1, c2, c3]) x8 x9 x11 w :=
 {hb := h.hb, h4 := h.h4
  h5 := (fun e => by
   obtain ⟨y0, y1, y2, y3, S, hS, a1, a2, a3, a4, a5, a6, a7⟩ := h.h5 e
   have h1 := a3 d6
   rw [he] at h1
   obtain ⟨rfl, rfl, rfl, rfl⟩ : c0 = y0 ∧ c1 = y1 ∧ c2 = y2 ∧ c3 = y3 := by simpa using h1
   exact ⟨_, _, _, _, S, hS, a1, a2, a3, (fun _ => rfl), a5, a6, a7⟩)
  h9 := h.h9, c6 := h.c6, c7 := (fun _ => d6), c8 := h.c8, c10 := (fun e => ⟨rfl, (h.c10 e).2⟩), c11 := h.c11 }
theorem DenR.s8 (d6 : b6 = true) : DenR WA P7 d R b4 b5 b6 b7 true b9 b10 b11 x4 x5 x6 x7 (.bool R) x9 x11 w :=
 {hb := h.hb, h4 := h.h4
  h5 := (fun e => by
   obtain ⟨y0, y1, y2, y3, S, hS, a1, a2, a3, a4, a5, a6, a7⟩ := h.h5 e
   exact ⟨_, _, _, _, S, hS, a1, a2, a3, a4, (fun _ => rfl), a6, a7⟩)
  h9 := h.h9, c6 := h.c6, c7 := h.c7, c8 := (fun _ => d6), c10 := h.c10, c11 := (fun _ => rfl) }
theorem DenR.s11 (d8 : b8 = true) : DenR WA P7 d R b4 b5 b6 b7 b8 b9 b10 true x4 x5 x6 x7 x8 x9 (.bool R) w :=
 {hb := h.hb, h4 := h.h4
  h5 := (fun e => by
   obtain ⟨y0, y1, y2, y3, S, hS, a1, a2, a3, a4, a5, a6, a7⟩ := h.h5 e
   exact ⟨_, _, _, _, S, hS, a1, a2, a3, a4, a5, (fun _ => rfl), a7⟩)
  h9 := h.h9, c6 := h.c6, c7 := h.c7, c8 := h.c8, c10 := h.c10, c11 := (fun _ => d8) }
theorem DenR.s9 (l7 : Lasts P7) (hi : b9 = false) : DenR WA P7 d R b4 b5 b6 b7 b8 true b10 b11 x4 x5 x6 x7 x8 (.pointer (some ⟨w.heap.size, 0, none⟩)) x11 (w.alloc (.cells #[.int .i64 0, .int .i64 0, .slice none 0 0, .int .i64 0] 31)) := by
 have n10 : b10 = false := by
  cases e5 : b10 with
  | false => rfl
  | true => have := (h.c10 e5).2; rw [hi] at this; cases this
 subst n10
 have hb := box_below' w (.cells #[.int .i64 0, .int .i64 0, .slice none 0 0, .int .i64 0] 31)
 exact {
  hb := h.hb.trans (hb.mono h.hb.size), h4 := (fun e e' => l7 _ _ _ (h.h4 e e') hb)
  h5 := (fun e => by
   obtain ⟨c0, c1, c2, c3, S, hS, a1, a2, a3, a4, a5, a6, a7⟩ := h.h5 e
   exact ⟨c0, c1, c2, c3, S, fun q hq => ⟨(hS q hq).1, Nat.lt_of_lt_of_le (hS q hq).2.1 hb.size, fun _ e => by
    have := (hS q hq).2.1
    have : w.heap.size = q := by cases e; rfl
    omega⟩, a1.keep (fun q hq => hb.block q (hS q hq).2.1), a2, a3, a4, a5, a6, (fun e => by cases e)⟩)
  h9 := (fun _ => ⟨_, rfl, h.hb.size, by simp, fun _ => CellsN.new w _ _⟩), c6 := h.c6, c7 := h.c7, c8 := h.c8, c10 := (fun e => by cases e), c11 := h.c11 }
theorem DenR.s10 (d7 : b7 = true) (d9 : b9 = true) (hi : b10 = false) {q : Nat} {c0 c1 c2 c3 : Value} (hq : x9 = .pointer (some ⟨q, 0, none⟩)) (he : x7 = .agg #[c0, c1, c2, c3]) :
  DenR WA P7 d R b4 b5 b6 b7 b8 b9 true b11 x4 x5 x6 x7 x8 x9 x11 ((((w.setCell ⟨q, 0, none⟩ c0).setCell ⟨q, 1, none⟩ c1).setCell ⟨q, 2, none⟩ c2).setCell ⟨q, 3, none⟩ c3) := by
 subst hi
 have d5 := h.c6 (h.c7 d7)
 subst d5
 obtain ⟨q', q1, q2, q3, q4⟩ := h.h9 d9
 obtain rfl : q = q' := by rw [hq] at q1; simpa using q1
 have hg := grown_trans (grown_trans (grown_trans (grown_setCell w ⟨q, 0, none⟩ c0) (grown_setCell _ ⟨q, 1, none⟩ c1)) (grown_setCell _ ⟨q, 2, none⟩ c2)) (grown_setCell _ ⟨q, 3, none⟩ c3)
 exact {
  hb := (((h.hb.setCell (p := ⟨q, 0, none⟩) q2 _).setCell (p := ⟨q, 1, none⟩) q2 _).setCell (p := ⟨q, 2, none⟩) q2 _).setCell (p := ⟨q, 3, none⟩) q2 _, h4 := (fun _ e => by cases e)
  h5 := (fun _ => by
   obtain ⟨y0, y1, y2, y3, S, hS, a1, a2, a3, a4, a5, a6, a7⟩ := h.h5 rfl
   have h1 := a4 d7
   rw [he] at h1
   obtain ⟨rfl, rfl, rfl, rfl⟩ : c0 = y0 ∧ c1 = y1 ∧ c2 = y2 ∧ c3 = y3 := by simpa using h1
   refine ⟨c0, c1, c2, c3, S, fun q' hq' => ⟨(hS q' hq').1, by simpa [World.setCell] using (hS q' hq').2.1, (hS q' hq').2.2⟩, a1.keep (fun q' hq' => hg.block q' (hS q' hq').2.1 (fun e => ?_)), a2, a3, a4, a5, a6, (fun _ => ⟨q, hq, by simpa [zeroD] using ((((q4 rfl).set 0 c0).set 1 c1).set 2 c2).set 3 c3⟩)⟩
   have : q' = q := by cases e; rfl
   exact (hS q' hq').2.2 d9 (by rw [hq, this]))
  h9 := (fun _ => ⟨q, hq, q2, by simpa [World.setCell] using q3, fun e => by cases e⟩), c6 := h.c6, c7 := h.c7, c8 := h.c8, c10 := (fun _ => ⟨d7, d9⟩), c11 := h.c11 }
end
end Go.Proofs.Yteiaeaciaglmgaa
set_option linter.unusedVariables false
set_option linter.unusedSimpArgs false
namespace Go.Proofs.Yteiaeaciaglmgaa
open Go.RowKit
theorem ins_small {f : Flow} (hc : checkE f = 0) {k : Nat} (hk : k < f.lots.length) : (lotAt f.lots k).ins.length ≤ 50000 := by
 have h1 := before_bd hc (k := k) (by omega)
 have h2 := before_bd hc (k := k + 1) (by omega)
 have h3 : beforeI f (k + 1) = beforeI f k + (lotAt f.lots k).ins.length := rfl
 omega
end Go.Proofs.Yteiaeaciaglmgaa
set_option linter.unusedVariables false
set_option linter.unusedSimpArgs false
namespace Go.Proofs.Yteiaeaciaglmgaa
open Go.RowKit
theorem DenS.grown {S : Nat → Prop} {w w' : World} {c : List Value} {d : Den} {row : Option Nat} (h : DenS S w c d) (hg : w.grownBy w' row) (hS : ∀ q, S q → q < w.heap.size ∧ row ≠ some q) : DenS S w' c d :=
 h.keep (fun q hq => hg.block q (hS q hq).1 (fun e => (hS q hq).2 e.symm))
end Go.Proofs.Yteiaeaciaglmgaa
set_option linter.unusedVariables false
set_option linter.unusedSimpArgs false
namespace Go.Proofs.Yteiaeaciaglmgaa
open Go.RowKit
def IsDen (B : Nat) (w : World) (c : List Value) (d : Den) : Prop := DenS (fun q => q < B) w c d
theorem IsDen.below {B B' : Nat} {w w' : World} {c : List Value} {d : Den} (h : IsDen B w c d) (hb : Below B' w w') (hB : B ≤ B') : IsDen B w' c d := h.keep (fun q hq => hb.block q (by omega))
theorem IsDen.mono {B B' : Nat} {w : World} {c : List Value} {d : Den} (h : IsDen B w c d) (hB : B ≤ B') : IsDen B' w c d := DenS.mono h (fun q hq => by omega)
end Go.Proofs.Yteiaeaciaglmgaa
set_option linter.unusedVariables false
set_option linter.unusedSimpArgs false
namespace Go.Proofs.Yteiaeaciaglmgaa
open Go.RowKit
theorem den_lt {d : Den} {j : Nat} (hj : j < d.kids.length) : SizeOf.sizeOf (denAt d.kids j) < SizeOf.sizeOf d := by
 cases d with
 | mk l i kids s =>
  have hj' : j < kids.length := hj
  have h1 : denAt kids j = kids[j] := by unfold denAt; rw [List.getD_eq_getElem?_getD, List.getElem?_eq_getElem hj']; rfl
  have h2 := List.sizeOf_lt_of_mem (List.getElem_mem hj')
  show SizeOf.sizeOf (denAt kids j) < _
  rw [h1]
  simp only [Den.mk.sizeOf_spec]
  omega
set_option maxHeartbeats 4000000 in
set_option maxRecDepth 100000 in
theorem same29_step (B : Nat) (w : World) (cd cd2 : List Value) (p : Den) (hd : IsDen B w cd p) (hd2 : IsDen B w cd2 p) (hB : B ≤ w.heap.size)
  (hih : ∀ (j : Nat) (W' : World) (k1 k2 : List Value), j < p.kids.length → Below w.heap.size w W' → IsDen B W' k1 (denAt p.kids j) → IsDen B W' k2 (denAt p.kids j) →
   Calls Try.prog 20 #[.agg k1.toArray, .agg k2.toArray] W' fun e w' => e = .returned (.bool true) ∧ Below W'.heap.size W' w') :
  Calls Try.prog 20 #[.agg cd.toArray, .agg cd2.toArray] w fun e w' => e = .returned (.bool true) ∧ Below w.heap.size w w' := by
 obtain ⟨ak, ck, rfl, _, _, _, hkl, bk, ok, hak, hkk⟩ := hd.form
 obtain ⟨ak2, ck2, rfl, _, _, _, _, bk2, ok2, hak2, hkk2⟩ := hd2.form
 have HKK := Lib.hid hkk
 have HAK := Lib.hid hak
 have HKK2 := Lib.hid hkk2
 have HAK2 := Lib.hid hak2
 have HIH := Lib.hid hih
 unfold LK at hkl
 obtain ⟨l, hl⟩ : ∃ x, p.lot = x := ⟨_, rfl⟩
 obtain ⟨i, hi⟩ : ∃ x, p.inn = x := ⟨_, rfl⟩
 obtain ⟨s, hs⟩ : ∃ x, p.sender = x := ⟨_, rfl⟩
 obtain ⟨nk, hnk⟩ : ∃ x, p.kids.length = x := ⟨_, rfl⟩
 rw [hl, hi, hs, hnk]
 rw [hnk] at HAK HAK2 HKK HKK2 HIH hkl
 clear hd hd2 hak hak2 hkk hkk2 hih hl hi hs hnk
 go_enter Try.func20, Try.ntmps20
 go_upto_region 1 with fail
 refine wp_name (fun W1 hW1 => ?_)
 have HX1 : Hid (Box W1 w.heap.size #[.int .i64 l, .int .i64 i, .slice ak nk ck, .int .i64 s]) := Lib.hid (by rw [hW1]; exact (Box.new w #[.int .i64 l, .int .i64 i, .slice ak nk ck, .int .i64 s] 31).alloc _)
 have HY1 : Hid (Box W1 (w.heap.size + 1) #[.int .i64 l, .int .i64 i, .slice ak2 nk ck2, .int .i64 s]) := Lib.hid (by
  rw [hW1]
  have h := Box.new (w.alloc (.cells #[.int .i64 l, .int .i64 i, .slice ak nk ck, .int .i64 s] 31)) #[.int .i64 l, .int .i64 i, .slice ak2 nk ck2, .int .i64 s] 31
  rw [World.size_alloc] at h
  exact h)
 have HW1 : Hid (Below w.heap.size w W1) := Lib.hid (by rw [hW1]; exact (box_below' w _).trans ((box_below' _ _).mono (by simp)))
 clear hW1
 have r1 := HX1.out.2
 have d1 := HY1.out.2
 have hl0 : (l != l) = false := by simp
 have hi0 : (i != i) = false := by simp
 have hs0 : (s != s) = false := by simp
 have hn0 : ((nk : Int) != (nk : Int)) = false := by simp
 go_wp2
 clear r1 d1
 go_loopw [5] (fun i' wr => ∃ j : Nat, j ≤ nk ∧ i' = .int .i64 j ∧ Below W1.heap.size W1 wr) (fun i' _ => nk - (intOf i').toNat)
 case atStart => exact ⟨0, by omega, rfl, Below.refl _ _⟩
 case round =>
  obtain ⟨j, hj, rfl, hb1⟩ := hrel
  have HB1 := Lib.hid hb1
  have HBR : Hid (Below w.heap.size w wr) := Lib.hid (HW1.out.trans (hb1.mono HW1.out.size))
  have HXR := Lib.hid (HX1.out.ext hb1)
  have HYR := Lib.hid (HY1.out.ext hb1)
  have r4 := HXR.out.2
  have d4 := HYR.out.2
  clear hb1
  by_cases hlt : j < nk
  ·obtain rfl : ak = some ⟨bk, ok, none⟩ := by rcases HAK.out with h | h; exact h; omega
   obtain rfl : ak2 = some ⟨bk2, ok2, none⟩ := by rcases HAK2.out with h | h; exact h; omega
   obtain ⟨hbk, cs, hcs, hds⟩ := HKK.out j hlt
   obtain ⟨hbk2, cs2, hcs2, hds2⟩ := HKK2.out j hlt
   have HDS := Lib.hid hds
   have HDS2 := Lib.hid hds2
   have hbq : bk < B := hbk
   have hbq2 : bk2 < B := hbk2
   obtain ⟨aq, cq, hce, _⟩ := hds.form
   obtain ⟨aq2, cq2, hce2, _⟩ := hds2.form
   obtain ⟨y0, y1, y3, nq, hy0⟩ : ∃ y0 y1 y3 nq, cs = [.int .i64 y0, .int .i64 y1, .slice aq nq cq, .int .i64 y3] := ⟨_, _, _, _, hce⟩
   obtain ⟨z0, z1, z3, nq2, hz0⟩ : ∃ y0 y1 y3 nq, cs2 = [.int .i64 y0, .int .i64 y1, .slice aq2 nq cq2, .int .i64 y3] := ⟨_, _, _, _, hce2⟩
   subst hy0 hz0
   have HKC : Hid (∀ W', Below w.heap.size w W' → W'.cell? ⟨bk, ok + j * 4, none⟩ = some (.int .i64 y0) ∧ W'.cell? ⟨bk, ok + j * 4 + 1, none⟩ = some (.int .i64 y1) ∧ W'.cell? ⟨bk, ok + j * 4 + 2, none⟩ = some (.slice aq nq cq) ∧ W'.cell? ⟨bk, ok + j * 4 + 3, none⟩ = some (.int .i64 y3)) := Lib.hid fun W' hW' =>
    ⟨(hW'.cell (p := ⟨bk, ok + j * 4, none⟩) (by show bk < _; omega)).trans (hcs 0 _ rfl), (hW'.cell (p := ⟨bk, ok + j * 4 + 1, none⟩) (by show bk < _; omega)).trans (hcs 1 _ rfl), (hW'.cell (p := ⟨bk, ok + j * 4 + 2, none⟩) (by show bk < _; omega)).trans (hcs 2 _ rfl), (hW'.cell (p := ⟨bk, ok + j * 4 + 3, none⟩) (by show bk < _; omega)).trans (hcs 3 _ rfl)⟩
   have HKC2 : Hid (∀ W', Below w.heap.size w W' → W'.cell? ⟨bk2, ok2 + j * 4, none⟩ = some (.int .i64 z0) ∧ W'.cell? ⟨bk2, ok2 + j * 4 + 1, none⟩ = some (.int .i64 z1) ∧ W'.cell? ⟨bk2, ok2 + j * 4 + 2, none⟩ = some (.slice aq2 nq2 cq2) ∧ W'.cell? ⟨bk2, ok2 + j * 4 + 3, none⟩ = some (.int .i64 z3)) := Lib.hid fun W' hW' =>
    ⟨(hW'.cell (p := ⟨bk2, ok2 + j * 4, none⟩) (by show bk2 < _; omega)).trans (hcs2 0 _ rfl), (hW'.cell (p := ⟨bk2, ok2 + j * 4 + 1, none⟩) (by show bk2 < _; omega)).trans (hcs2 1 _ rfl), (hW'.cell (p := ⟨bk2, ok2 + j * 4 + 2, none⟩) (by show bk2 < _; omega)).trans (hcs2 2 _ rfl), (hW'.cell (p := ⟨bk2, ok2 + j * 4 + 3, none⟩) (by show bk2 < _; omega)).trans (hcs2 3 _ rfl)⟩
   have HIW : Hid (∀ W', Below wr.heap.size wr W' → W'.cell? ⟨w.heap.size, 2, none⟩ = some (.slice (some ⟨bk, ok, none⟩) nk ck) ∧ W'.cell? ⟨w.heap.size + 1, 2, none⟩ = some (.slice (some ⟨bk2, ok2, none⟩) nk ck2)) := Lib.hid fun W' hW' => ⟨(HXR.out.ext hW').2 2, (HYR.out.ext hW').2 2⟩
   have HCL : Hid (∀ W', Below wr.heap.size wr W' → Calls Try.prog 20 #[.agg #[.int .i64 y0, .int .i64 y1, .slice aq nq cq, .int .i64 y3], .agg #[.int .i64 z0, .int .i64 z1, .slice aq2 nq2 cq2, .int .i64 z3]] W' fun e w' => e = .returned (.bool true) ∧ Below W'.heap.size W' w') := Lib.hid fun W' hW' => by
    have hWW := HBR.out.trans (hW'.mono HBR.out.size)
    exact HIH.out j W' [.int .i64 y0, .int .i64 y1, .slice aq nq cq, .int .i64 y3] [.int .i64 z0, .int .i64 z1, .slice aq2 nq2 cq2, .int .i64 z3] hlt hWW (IsDen.below HDS.out hWW hB) (IsDen.below HDS2.out hWW hB)
   obtain ⟨wq, rfl⟩ : ∃ W', W' = wr := ⟨_, rfl⟩
   clear hce hce2 hcs hcs2 hds hds2
   go_upto_region 6 with fail
   clear r4 d4
   obtain ⟨V, hV⟩ : ∃ V : List (Option Value), V = [some (.pointer (some ⟨w.heap.size, 2, none⟩)), some (.slice (some ⟨bk, ok, none⟩) nk ck), some (.int .i64 (j : Int)), some (.pointer (some ⟨bk, ok + j * 4, none⟩)), some (.agg #[.int .i64 y0, .int .i64 y1, .slice aq nq cq, .int .i64 y3]), some (.pointer (some ⟨w.heap.size + 1, 2, none⟩)), some (.slice (some ⟨bk2, ok2, none⟩) nk ck2), some (.int .i64 (j : Int)), some (.pointer (some ⟨bk2, ok2 + j * 4, none⟩)), some (.agg #[.int .i64 z0, .int .i64 z1, .slice aq2 nq2 cq2, .int .i64 z3]), some (.bool true), some (.bool false)] := ⟨_, rfl⟩
   have HVV := Lib.hid hV
   clear hV
   refine wp_region_V [some 41, some 42, some 43, some 44, some 45, some 46, some 47, some 48, some 49, some 50, some 51, some 52] (fun L w' xs => ValsAt V L xs ∧ (Below wq.heap.size wq w')) (by kernel_rfl) (by kernel_rfl) (by rfl) (by rfl) (by rfl) ?_ ?_ ?_
   focus
    exact fun xs => ⟨ValsAt.none _ _, (Below.refl _ _).drew⟩
   focus
    refine ⟨?_, ?_, ?_, ?_, ?_, ?_, ?_, ?_, ?_, ?_, ?_, ?_, trivial⟩
    all_goals
     intro L a' w' xs hi hd hf hJ K hK
     obtain ⟨hv, hb⟩ := hJ
     have HF := Lib.hid hf
     have HVA := Lib.hid hv
     have HLI := Lib.hid hi
     clear hf hv hi
    focus
     clear hd
     obtain ⟨ρ, hρ⟩ : ∃ ρ, a'.eval = ρ := ⟨_, rfl⟩
     have hcst : ∀ v, ρ (.const v) = v := fun v => (congrFun hρ (.const v)).symm
     have l2 : ρ (.tmp 2) = .pointer (some ⟨w.heap.size, 0, none⟩) := (congrFun hρ (.tmp 2)).symm.trans (HF.out.lo 2 rfl)
     rw [if_pos (by simp [Region.wanted])]
     unfold Oper.wp
     rw [hρ]
     clear hρ
     go_simp
     exact hK.out _ _ ⟨HVA.out.set (i := 0) (by rw [HVV.out]; rfl), hb⟩
    focus
     obtain ⟨d0, _⟩ := hd
     obtain ⟨ρ, hρ⟩ : ∃ ρ, a'.eval = ρ := ⟨_, rfl⟩
     have hcst : ∀ v, ρ (.const v) = v := fun v => (congrFun hρ (.const v)).symm
     have v0 : ρ (.tmp 41) = .pointer (some ⟨w.heap.size, 2, none⟩) := (congrFun hρ (.tmp 41)).symm.trans ((HF.out.ev 0 rfl d0).trans (HVA.out 0 _ (by rw [HVV.out]; rfl) d0))
     obtain ⟨k0, k1⟩ := HIW.out _ hb
     rw [if_pos (by simp [Region.wanted])]
     unfold Oper.wp
     rw [hρ]
     clear hρ
     go_simp
     exact hK.out _ _ ⟨HVA.out.set (i := 1) (by rw [HVV.out]; rfl), hb⟩
    focus
     clear hd
     obtain ⟨ρ, hρ⟩ : ∃ ρ, a'.eval = ρ := ⟨_, rfl⟩
     have hcst : ∀ v, ρ (.const v) = v := fun v => (congrFun hρ (.const v)).symm
     have l5 : ρ (.tmp 5) = .int .i64 (j : Int) := (congrFun hρ (.tmp 5)).symm.trans (HF.out.lo 5 rfl)
     rw [if_pos (by simp [Region.wanted])]
     unfold Oper.wp
     rw [hρ]
     clear hρ
     go_simp
     exact hK.out _ _ ⟨HVA.out.set (i := 2) (by rw [HVV.out]; rfl), hb⟩
    focus
     obtain ⟨d1, d2, _⟩ := hd
     obtain ⟨ρ, hρ⟩ : ∃ ρ, a'.eval = ρ := ⟨_, rfl⟩
     have hcst : ∀ v, ρ (.const v) = v := fun v => (congrFun hρ (.const v)).symm
     have v1 : ρ (.tmp 42) = .slice (some ⟨bk, ok, none⟩) nk ck := (congrFun hρ (.tmp 42)).symm.trans ((HF.out.ev 1 rfl d1).trans (HVA.out 1 _ (by rw [HVV.out]; rfl) d1))
     have v2 : ρ (.tmp 43) = .int .i64 (j : Int) := (congrFun hρ (.tmp 43)).symm.trans ((HF.out.ev 2 rfl d2).trans (HVA.out 2 _ (by rw [HVV.out]; rfl) d2))
     rw [if_pos (by simp [Region.wanted])]
     unfold Oper.wp
     rw [hρ]
     clear hρ
     go_simp
     exact hK.out _ _ ⟨HVA.out.set (i := 3) (by rw [HVV.out]; rfl), hb⟩
    focus
     obtain ⟨d3, _⟩ := hd
     obtain ⟨ρ, hρ⟩ : ∃ ρ, a'.eval = ρ := ⟨_, rfl⟩
     have hcst : ∀ v, ρ (.const v) = v := fun v => (congrFun hρ (.const v)).symm
     have v3 : ρ (.tmp 44) = .pointer (some ⟨bk, ok + j * 4, none⟩) := (congrFun hρ (.tmp 44)).symm.trans ((HF.out.ev 3 rfl d3).trans (HVA.out 3 _ (by rw [HVV.out]; rfl) d3))
     obtain ⟨e0, e1, e2, e3⟩ := HKC.out _ (HBR.out.trans (hb.mono HBR.out.size))
     rw [if_pos (by simp [Region.wanted])]
     unfold Oper.wp
     rw [hρ]
     clear hρ
     go_simp
     exact hK.out _ _ ⟨HVA.out.set (i := 4) (by rw [HVV.out]; rfl), hb⟩
    focus
     clear hd
     obtain ⟨ρ, hρ⟩ : ∃ ρ, a'.eval = ρ := ⟨_, rfl⟩
     have hcst : ∀ v, ρ (.const v) = v := fun v => (congrFun hρ (.const v)).symm
     have l3 : ρ (.tmp 3) = .pointer (some ⟨w.heap.size + 1, 0, none⟩) := (congrFun hρ (.tmp 3)).symm.trans (HF.out.lo 3 rfl)
     rw [if_pos (by simp [Region.wanted])]
     unfold Oper.wp
     rw [hρ]
     clear hρ
     go_simp
     exact hK.out _ _ ⟨HVA.out.set (i := 5) (by rw [HVV.out]; rfl), hb⟩
    focus
     obtain ⟨d5, _⟩ := hd
     obtain ⟨ρ, hρ⟩ : ∃ ρ, a'.eval = ρ := ⟨_, rfl⟩
     have hcst : ∀ v, ρ (.const v) = v := fun v => (congrFun hρ (.const v)).symm
     have v5 : ρ (.tmp 46) = .pointer (some ⟨w.heap.size + 1, 2, none⟩) := (congrFun hρ (.tmp 46)).symm.trans ((HF.out.ev 5 rfl d5).trans (HVA.out 5 _ (by rw [HVV.out]; rfl) d5))
     obtain ⟨k0, k1⟩ := HIW.out _ hb
     rw [if_pos (by simp [Region.wanted])]
     unfold Oper.wp
     rw [hρ]
     clear hρ
     go_simp
     exact hK.out _ _ ⟨HVA.out.set (i := 6) (by rw [HVV.out]; rfl), hb⟩
    focus
     clear hd
     obtain ⟨ρ, hρ⟩ : ∃ ρ, a'.eval = ρ := ⟨_, rfl⟩
     have hcst : ∀ v, ρ (.const v) = v := fun v => (congrFun hρ (.const v)).symm
     have l5 : ρ (.tmp 5) = .int .i64 (j : Int) := (congrFun hρ (.tmp 5)).symm.trans (HF.out.lo 5 rfl)
     rw [if_pos (by simp [Region.wanted])]
     unfold Oper.wp
     rw [hρ]
     clear hρ
     go_simp
     exact hK.out _ _ ⟨HVA.out.set (i := 7) (by rw [HVV.out]; rfl), hb⟩
    focus
     obtain ⟨d6, d7, _⟩ := hd
     obtain ⟨ρ, hρ⟩ : ∃ ρ, a'.eval = ρ := ⟨_, rfl⟩
     have hcst : ∀ v, ρ (.const v) = v := fun v => (congrFun hρ (.const v)).symm
     have v6 : ρ (.tmp 47) = .slice (some ⟨bk2, ok2, none⟩) nk ck2 := (congrFun hρ (.tmp 47)).symm.trans ((HF.out.ev 6 rfl d6).trans (HVA.out 6 _ (by rw [HVV.out]; rfl) d6))
     have v7 : ρ (.tmp 48) = .int .i64 (j : Int) := (congrFun hρ (.tmp 48)).symm.trans ((HF.out.ev 7 rfl d7).trans (HVA.out 7 _ (by rw [HVV.out]; rfl) d7))
     rw [if_pos (by simp [Region.wanted])]
     unfold Oper.wp
     rw [hρ]
     clear hρ
     go_simp
     exact hK.out _ _ ⟨HVA.out.set (i := 8) (by rw [HVV.out]; rfl), hb⟩
    focus
     obtain ⟨d8, _⟩ := hd
     obtain ⟨ρ, hρ⟩ : ∃ ρ, a'.eval = ρ := ⟨_, rfl⟩
     have hcst : ∀ v, ρ (.const v) = v := fun v => (congrFun hρ (.const v)).symm
     have v8 : ρ (.tmp 49) = .pointer (some ⟨bk2, ok2 + j * 4, none⟩) := (congrFun hρ (.tmp 49)).symm.trans ((HF.out.ev 8 rfl d8).trans (HVA.out 8 _ (by rw [HVV.out]; rfl) d8))
     obtain ⟨e0, e1, e2, e3⟩ := HKC2.out _ (HBR.out.trans (hb.mono HBR.out.size))
     rw [if_pos (by simp [Region.wanted])]
     unfold Oper.wp
     rw [hρ]
     clear hρ
     go_simp
     exact hK.out _ _ ⟨HVA.out.set (i := 9) (by rw [HVV.out]; rfl), hb⟩
    focus
     obtain ⟨d4, d9, _⟩ := hd
     obtain ⟨ρ, hρ⟩ : ∃ ρ, a'.eval = ρ := ⟨_, rfl⟩
     have hcst : ∀ v, ρ (.const v) = v := fun v => (congrFun hρ (.const v)).symm
     have hfun : ∀ k, ρ (.func k) = .func (.func k) #[] #[] := fun k => (congrFun hρ (.func k)).symm
     have v4 : ρ (.tmp 45) = .agg #[.int .i64 y0, .int .i64 y1, .slice aq nq cq, .int .i64 y3] := (congrFun hρ (.tmp 45)).symm.trans ((HF.out.ev 4 rfl d4).trans (HVA.out 4 _ (by rw [HVV.out]; rfl) d4))
     have v9 : ρ (.tmp 50) = .agg #[.int .i64 z0, .int .i64 z1, .slice aq2 nq2 cq2, .int .i64 z3] := (congrFun hρ (.tmp 50)).symm.trans ((HF.out.ev 9 rfl d9).trans (HVA.out 9 _ (by rw [HVV.out]; rfl) d9))
     rw [if_pos (by simp [Region.wanted])]
     unfold Oper.wp
     rw [hρ]
     clear hρ
     go_simp
     go_at_call 20
     refine (HCL.out _ hb).mono ?_
     rintro en w5' ⟨rfl, hb5⟩
     exact hK.out _ _ ⟨HVA.out.set (i := 10) (by rw [HVV.out]; rfl), hb.trans (hb5.mono hb.size)⟩
    focus
     obtain ⟨d10, _⟩ := hd
     obtain ⟨ρ, hρ⟩ : ∃ ρ, a'.eval = ρ := ⟨_, rfl⟩
     have hcst : ∀ v, ρ (.const v) = v := fun v => (congrFun hρ (.const v)).symm
     have v10 : ρ (.tmp 51) = .bool true := (congrFun hρ (.tmp 51)).symm.trans ((HF.out.ev 10 rfl d10).trans (HVA.out 10 _ (by rw [HVV.out]; rfl) d10))
     rw [if_pos (by simp [Region.wanted])]
     unfold Oper.wp
     rw [hρ]
     clear hρ
     go_simp
     exact hK.out _ _ ⟨HVA.out.set (i := 11) (by rw [HVV.out]; rfl), hb⟩
   focus
    intro L w' xs hL hJ
    obtain ⟨hv, hb⟩ := hJ
    have e0 : xs 0 = .pointer (some ⟨w.heap.size, 2, none⟩) := hv 0 _ (by rw [HVV.out]; rfl) (hL 0 (by decide))
    have e1 : xs 1 = .slice (some ⟨bk, ok, none⟩) nk ck := hv 1 _ (by rw [HVV.out]; rfl) (hL 1 (by decide))
    have e2 : xs 2 = .int .i64 (j : Int) := hv 2 _ (by rw [HVV.out]; rfl) (hL 2 (by decide))
    have e3 : xs 3 = .pointer (some ⟨bk, ok + j * 4, none⟩) := hv 3 _ (by rw [HVV.out]; rfl) (hL 3 (by decide))
    have e4 : xs 4 = .agg #[.int .i64 y0, .int .i64 y1, .slice aq nq cq, .int .i64 y3] := hv 4 _ (by rw [HVV.out]; rfl) (hL 4 (by decide))
    have e5 : xs 5 = .pointer (some ⟨w.heap.size + 1, 2, none⟩) := hv 5 _ (by rw [HVV.out]; rfl) (hL 5 (by decide))
    have e6 : xs 6 = .slice (some ⟨bk2, ok2, none⟩) nk ck2 := hv 6 _ (by rw [HVV.out]; rfl) (hL 6 (by decide))
    have e7 : xs 7 = .int .i64 (j : Int) := hv 7 _ (by rw [HVV.out]; rfl) (hL 7 (by decide))
    have e8 : xs 8 = .pointer (some ⟨bk2, ok2 + j * 4, none⟩) := hv 8 _ (by rw [HVV.out]; rfl) (hL 8 (by decide))
    have e9 : xs 9 = .agg #[.int .i64 z0, .int .i64 z1, .slice aq2 nq2 cq2, .int .i64 z3] := hv 9 _ (by rw [HVV.out]; rfl) (hL 9 (by decide))
    have e10 : xs 10 = .bool true := hv 10 _ (by rw [HVV.out]; rfl) (hL 10 (by decide))
    have e11 : xs 11 = .bool false := hv 11 _ (by rw [HVV.out]; rfl) (hL 11 (by decide))
    simp only [putGo, Act.put, List.setIfInBounds_toArray, List.set_cons_zero, List.set_cons_succ, e0, e1, e2, e3, e4, e5, e6, e7, e8, e9, e10, e11]
    clear hv e0 e1 e2 e3 e4 e5 e6 e7 e8 e9 e10 e11
    have hb' := hb
    obtain ⟨WC, rfl⟩ : ∃ W', W' = w' := ⟨_, rfl⟩
    have HBC5 := Lib.hid (HB1.out.trans (hb'.mono HB1.out.size))
    clear hb hb' hL
    go_wp2
    go_roundw
    case rel => exact ⟨j + 1, by omega, by go_num, HBC5.out⟩
    case measure => simp [intOf]; omega
  ·obtain rfl : j = nk := by omega
   go_wp2
   go_ret
   exact ⟨rfl, HBR.out⟩
/-- frankingref29.Same, of two pictures of one denial -/
theorem same29_any : ∀ (n B : Nat) (w : World) (cd cd2 : List Value) (p : Den), SizeOf.sizeOf p ≤ n → IsDen B w cd p → IsDen B w cd2 p → B ≤ w.heap.size →
  Calls Try.prog 20 #[.agg cd.toArray, .agg cd2.toArray] w fun e w' => e = .returned (.bool true) ∧ Below w.heap.size w w' := by
 intro n
 induction n with
 | zero =>
  intro B w cd cd2 p hn
  cases p with
  | mk l i k s => simp only [Den.mk.sizeOf_spec] at hn; omega
 | succ n ih =>
  intro B w cd cd2 p hn hd hd2 hB
  exact same29_step B w cd cd2 p hd hd2 hB (fun j W' k1 k2 hj hW' h1 h2 => ih B W' k1 k2 _ (by have := den_lt hj; omega) h1 h2 (Nat.le_trans hB hW'.size))
set_option maxHeartbeats 4000000 in
set_option maxRecDepth 100000 in
theorem size29_step (B : Nat) (w : World) (cd : List Value) (p : Den) (most : Nat) (hd : IsDen B w cd p) (hB : B ≤ w.heap.size) (hm1 : 1 ≤ most) (hm2 : most ≤ 100000)
  (hih : ∀ (j m : Nat) (W' : World) (k1 : List Value), j < p.kids.length → Below w.heap.size w W' → IsDen B W' k1 (denAt p.kids j) → 1 ≤ m → m ≤ 100000 →
   Calls Try.prog 29 #[.agg k1.toArray, .int .i64 (m : Int)] W' fun e w' => (∃ r : Nat, e = .returned (.int .i64 (r : Int)) ∧ 1 ≤ r ∧ r ≤ m) ∧ Below W'.heap.size W' w') :
  Calls Try.prog 29 #[.agg cd.toArray, .int .i64 (most : Int)] w fun e w' => (∃ r : Nat, e = .returned (.int .i64 (r : Int)) ∧ 1 ≤ r ∧ r ≤ most) ∧ Below w.heap.size w w' := by
 obtain ⟨ak, ck, rfl, _, _, _, hkl, bk, ok, hak, hkk⟩ := hd.form
 have HKK := Lib.hid hkk
 have HAK := Lib.hid hak
 have HIH := Lib.hid hih
 unfold LK at hkl
 obtain ⟨l, hl⟩ : ∃ x, p.lot = x := ⟨_, rfl⟩
 obtain ⟨i, hi⟩ : ∃ x, p.inn = x := ⟨_, rfl⟩
 obtain ⟨s, hs⟩ : ∃ x, p.sender = x := ⟨_, rfl⟩
 obtain ⟨nk, hnk⟩ : ∃ x, p.kids.length = x := ⟨_, rfl⟩
 rw [hl, hi, hs, hnk]
 rw [hnk] at HAK HKK HIH hkl
 clear hd hak hkk hih hl hi hs hnk
 go_enter Try.func29, Try.ntmps29
 go_upto_region 1 with fail
 refine wp_name (fun W1 hW1 => ?_)
 have HX1 : Hid (Box W1 w.heap.size #[.int .i64 l, .int .i64 i, .slice ak nk ck, .int .i64 s]) := Lib.hid (by rw [hW1]; exact Box.new w #[.int .i64 l, .int .i64 i, .slice ak nk ck, .int .i64 s] 31)
 have HW1 : Hid (Below w.heap.size w W1) := Lib.hid (by rw [hW1]; exact box_below' w _)
 clear hW1
 go_wp2
 go_loopw [5, 6] (fun r' i' wr => ∃ (j r : Nat), j ≤ nk ∧ i' = .int .i64 j ∧ r' = .int .i64 r ∧ 1 ≤ r ∧ r ≤ most ∧ Below W1.heap.size W1 wr) (fun _ i' _ => nk - (intOf i').toNat)
 case atStart => exact ⟨0, 1, by omega, rfl, rfl, by omega, hm1, Below.refl _ _⟩
 case round =>
  obtain ⟨j, r, hj, rfl, rfl, hr1, hr2, hb1⟩ := hrel
  have HB1 := Lib.hid hb1
  have HBR : Hid (Below w.heap.size w wr) := Lib.hid (HW1.out.trans (hb1.mono HW1.out.size))
  have HXR := Lib.hid (HX1.out.ext hb1)
  have r4 := HXR.out.2
  clear hb1
  by_cases hlt : j < nk
  ·by_cases hrm : r < most
   ·obtain rfl : ak = some ⟨bk, ok, none⟩ := by rcases HAK.out with h | h; exact h; omega
    obtain ⟨hbk, cs, hcs, hds⟩ := HKK.out j hlt
    have HDS := Lib.hid hds
    have hbq : bk < B := hbk
    obtain ⟨aq, cq, hce, _⟩ := hds.form
    obtain ⟨y0, y1, y3, nq, hy0⟩ : ∃ y0 y1 y3 nq, cs = [.int .i64 y0, .int .i64 y1, .slice aq nq cq, .int .i64 y3] := ⟨_, _, _, _, hce⟩
    subst hy0
    have e0 := (HBR.out.cell (p := ⟨bk, ok + j * 4, none⟩) (by show bk < _; omega)).trans (hcs 0 _ rfl)
    have e1 := (HBR.out.cell (p := ⟨bk, ok + j * 4 + 1, none⟩) (by show bk < _; omega)).trans (hcs 1 _ rfl)
    have e2 := (HBR.out.cell (p := ⟨bk, ok + j * 4 + 2, none⟩) (by show bk < _; omega)).trans (hcs 2 _ rfl)
    have e3 := (HBR.out.cell (p := ⟨bk, ok + j * 4 + 3, none⟩) (by show bk < _; omega)).trans (hcs 3 _ rfl)
    have HCL := Lib.hid (HIH.out j (most - r) wr [.int .i64 y0, .int .i64 y1, .slice aq nq cq, .int .i64 y3] hlt HBR.out (IsDen.below HDS.out HBR.out hB) (by omega) (by omega))
    have hwm : IntKind.i64.wrap ((most : Int) - (r : Int)) = ((most - r : Nat) : Int) := by rw [IntWalk.i64_in _ (by omega)]; omega
    clear hce hcs hds
    go_wp2_with fail
    refine HCL.out.mono ?_
    rintro e w5 ⟨⟨r5, rfl, h51, h52⟩, hb5⟩
    have HBC5 := Lib.hid (HB1.out.trans (hb5.mono HB1.out.size))
    clear hb5 r4
    have h53 : r5 ≤ 100000 := by omega
    go_wp2
    go_roundw
    case rel => exact ⟨j + 1, r + r5, by omega, by go_num, by go_num, by omega, by omega, HBC5.out⟩
    case measure => simp [intOf]; omega
   ·obtain rfl : r = most := by omega
    go_wp2
    go_ret
    exact ⟨⟨r, rfl, hr1, Nat.le_refl _⟩, HBR.out⟩
  ·obtain rfl : j = nk := by omega
   go_wp2
   go_ret
   exact ⟨⟨r, rfl, hr1, hr2⟩, HBR.out⟩
/-- frankingref29.size -/
theorem size29_any : ∀ (n B : Nat) (w : World) (cd : List Value) (p : Den) (most : Nat), SizeOf.sizeOf p ≤ n → IsDen B w cd p → B ≤ w.heap.size → 1 ≤ most → most ≤ 100000 →
  Calls Try.prog 29 #[.agg cd.toArray, .int .i64 (most : Int)] w fun e w' => (∃ r : Nat, e = .returned (.int .i64 (r : Int)) ∧ 1 ≤ r ∧ r ≤ most) ∧ Below w.heap.size w w' := by
 intro n
 induction n with
 | zero =>
  intro B w cd p most hn
  cases p with
  | mk l i k s => simp only [Den.mk.sizeOf_spec] at hn; omega
 | succ n ih =>
  intro B w cd p most hn hd hB h1 h2
  exact size29_step B w cd p most hd hB h1 h2 (fun j m W' k1 hj hW' h1 h2 h3 => ih B W' k1 _ m (by have := den_lt hj; omega) h1 (Nat.le_trans hB hW'.size) h2 h3)
end Go.Proofs.Yteiaeaciaglmgaa
set_option linter.unusedVariables false
set_option linter.unusedSimpArgs false
namespace Go.Proofs.Yteiaeaciaglmgaa
open Go.RowKit
structure Few29 (f : Flow) (zs : List Int) (W : List (List Int)) : Prop where
 few : few25 f = true
 send : f.senders ≤ 8 ∨ 64 < f.senders
 lots : f.lots.length ≤ 8
 ends : zs.length ≤ 70
 way : W.length ≤ 30
 row : ∀ j, j < W.length → (rowAt W j).length ≤ 70
set_option maxHeartbeats 8000000 in
set_option maxRecDepth 100000 in
/-- frankingref29.Few -/
theorem few29_any (B : Nat) (w : World) (vs vl va vw : Value) (cd : List Value) (f : Flow) (zs : List Int) (W : List (List Int)) (p : Den) (hf : IsFlow B w vs vl f) (hz : IsInts B w va zs) (hw : IsMat B w vw W) (hd : IsDen B w cd p) (hB : B ≤ w.heap.size) :
  Calls Try.prog 10 #[.agg #[vs, vl], va, vw, .agg cd.toArray] w fun e w' => (∃ r, e = .returned (.bool r) ∧ (r = true → Few29 f zs W)) ∧ Below w.heap.size w w' := by
 have HF := Lib.hid hf
 have HD := Lib.hid hd
 obtain ⟨rfl, ⟨hs1, hs2⟩, hl'⟩ := hf
 obtain ⟨b, off, cap, ⟨a, rfl, hcap, hmax, ha⟩, hlen, hc⟩ := hl'
 obtain ⟨az, cz, rfl⟩ := hz.form
 obtain ⟨bw, ow, cw, ⟨aw, rfl, hcw1, hcw2, haw⟩, hwl, hcw⟩ := hw
 have HCW := Lib.hid hcw
 have HAW := Lib.hid haw
 obtain ⟨ak, ck, rfl, _⟩ := hd.form
 obtain ⟨l, hl⟩ : ∃ x, p.lot = x := ⟨_, rfl⟩
 obtain ⟨i, hi⟩ : ∃ x, p.inn = x := ⟨_, rfl⟩
 obtain ⟨s, hs⟩ : ∃ x, p.sender = x := ⟨_, rfl⟩
 obtain ⟨nk, hnk⟩ : ∃ x, p.kids.length = x := ⟨_, rfl⟩
 rw [hl, hi, hs, hnk] at HD ⊢
 clear hz ha hc hd hl hi hs hnk hcw haw
 go_enter Try.func10, Try.ntmps10
 go_upto_region 1 with fail
 refine wp_name (fun W1 hW1 => ?_)
 have HX1 : Hid (Box W1 w.heap.size #[.int .i64 f.senders, .slice a f.lots.length cap]) := Lib.hid (by rw [hW1]; exact (Box.new w #[.int .i64 f.senders, .slice a f.lots.length cap] 24).alloc _)
 have HR1 : Hid (Box W1 (w.heap.size + 1) #[.int .i64 l, .int .i64 i, .slice ak nk ck, .int .i64 s]) := Lib.hid (by
  rw [hW1]
  have h := Box.new (w.alloc (.cells #[.int .i64 f.senders, .slice a f.lots.length cap] 24)) #[.int .i64 l, .int .i64 i, .slice ak nk ck, .int .i64 s] 31
  rw [World.size_alloc] at h
  exact h)
 have HW1 : Hid (Below w.heap.size w W1) := Lib.hid (by rw [hW1]; exact (box_below' w _).trans ((box_below' _ _).mono (by simp)))
 clear hW1
 have HFL := Lib.hid (fun (W' : World) (h : Below w.heap.size w W') => few25_any B W' _ _ f (HF.out.below h hB) (Nat.le_trans hB h.size))
 have HSZ := Lib.hid (fun (W' : World) (h : Below w.heap.size w W') => size29_any (SizeOf.sizeOf p) B W' _ p 20001 (Nat.le_refl _) (IsDen.below HD.out h hB) (Nat.le_trans hB h.size) (by omega) (by omega))
 have HCH := Lib.hid (fun (W' : World) (h : Below w.heap.size w W') => check25_any B W' _ _ f (HF.out.below h hB) (Nat.le_trans hB h.size))
 have HWY := Lib.hid (fun (W' : World) (h : Below w.heap.size w W') (hck : checkE f = 0) => ways29_any B W' _ _ f (HF.out.below h hB) (Nat.le_trans hB h.size) hck)
 have r1 := HX1.out.2
 have d1 := HR1.out.2
 by_cases h8 : f.senders ≤ 8
 ·have HSN : Hid (f.senders ≤ 8 ∨ 64 < f.senders) := Lib.hid (.inl h8)
  have h81 : decide (8 < f.senders) = false := decide_eq_false (by omega)
  clear h8
  go_wp2_with fail
  refine (HFL.out _ HW1.out).mono ?_
  rintro e W2 ⟨rfl, hb2⟩
  have HX2 := Lib.hid (HX1.out.ext hb2)
  have HR2 := Lib.hid (HR1.out.ext hb2)
  have HW2 : Hid (Below w.heap.size w W2) := Lib.hid (HW1.out.trans (hb2.mono HW1.out.size))
  clear hb2 r1 d1
  have r2 := HX2.out.2
  have d2 := HR2.out.2
  obtain ⟨FE, hFE⟩ : ∃ x, few25 f = x := ⟨_, rfl⟩
  have HFE := Lib.hid hFE
  rw [hFE]
  clear hFE
  cases FE
  ·go_wp2
   go_ret
   first | exact ⟨⟨false, rfl, fun h => by cases h⟩, HW2.out⟩ | exact ⟨.inl rfl, HW2.out⟩
  ·by_cases hl8 : 8 < f.lots.length
   ·have hl81 : decide (8 < (f.lots.length : Int)) = true := decide_eq_true (by omega)
    go_wp2
    go_ret
    first | exact ⟨⟨false, rfl, fun h => by cases h⟩, HW2.out⟩ | exact ⟨.inl rfl, HW2.out⟩
   ·have hl81 : decide (8 < (f.lots.length : Int)) = false := decide_eq_false (by omega)
    by_cases hz70 : 70 < zs.length
    ·have hz71 : decide (70 < (zs.length : Int)) = true := decide_eq_true (by omega)
     go_wp2
     go_ret
     first | exact ⟨⟨false, rfl, fun h => by cases h⟩, HW2.out⟩ | exact ⟨.inl rfl, HW2.out⟩
    ·have hz71 : decide (70 < (zs.length : Int)) = false := decide_eq_false (by omega)
     by_cases hw30 : 30 < W.length
     ·have hw31 : decide (30 < (W.length : Int)) = true := decide_eq_true (by omega)
      go_wp2
      go_ret
      first | exact ⟨⟨false, rfl, fun h => by cases h⟩, HW2.out⟩ | exact ⟨.inl rfl, HW2.out⟩
     ·have hw31 : decide (30 < (W.length : Int)) = false := decide_eq_false (by omega)
      go_wp2_with fail
      refine (HSZ.out _ HW2.out).mono ?_
      rintro e W3 ⟨⟨r, rfl, hr1, hr2⟩, hb3⟩
      have HX3 := Lib.hid (HX2.out.ext hb3)
      have HW3 : Hid (Below w.heap.size w W3) := Lib.hid (HW2.out.trans (hb3.mono HW2.out.size))
      clear hb3 r2 d2
      have r3 := HX3.out.2
      by_cases hr : 20000 < r
      ·have hr3 : decide (20000 < (r : Int)) = true := decide_eq_true (by omega)
       go_wp2
       go_ret
       first | exact ⟨⟨false, rfl, fun h => by cases h⟩, HW3.out⟩ | exact ⟨.inl rfl, HW3.out⟩
      ·have hr3 : decide (20000 < (r : Int)) = false := decide_eq_false (by omega)
       go_wp2
       try simp only [hr3, hw31, hz71, hl81]
       go_loopw [9] (fun i' wr => ∃ k : Nat, k ≤ W.length ∧ i' = .int .i64 k ∧ (∀ j, j < k → (rowAt W j).length ≤ 70) ∧ Below W3.heap.size W3 wr) (fun i' _ => W.length - (intOf i').toNat)
       case atStart => exact ⟨0, by omega, rfl, fun j hj => by omega, Below.refl _ _⟩
       case round =>
        obtain ⟨k, hk, rfl, hrow, hb4⟩ := hrel
        have HRW := Lib.hid hrow
        have HB4 := Lib.hid hb4
        have HX4 := Lib.hid (HX3.out.ext hb4)
        have HBR : Hid (Below w.heap.size w wr) := Lib.hid (HW3.out.trans (hb4.mono HW3.out.size))
        clear hrow hb4
        by_cases hlt : k < W.length
        ·obtain rfl : aw = some ⟨bw, ow, none⟩ := by rcases HAW.out with h | h; exact h; omega
         obtain ⟨vr, hc1, hc2⟩ := HCW.out k hlt
         obtain ⟨ar, cr, rfl⟩ := hc2.form
         have x0 := (hc1.below HBR.out hB).2
         clear hc1 hc2
         by_cases h70 : 70 < (rowAt W k).length
         ·have h71 : decide (70 < ((rowAt W k).length : Int)) = true := decide_eq_true (by omega)
          go_wp2
          go_ret
          first | exact ⟨⟨false, rfl, fun h => by cases h⟩, HBR.out⟩ | exact ⟨.inl rfl, HBR.out⟩
         ·have h71 : decide (70 < ((rowAt W k).length : Int)) = false := decide_eq_false (by omega)
          have HL7 := Lib.hid h70
          clear h70
          go_wp2
          go_roundw
          case rel => exact ⟨k + 1, by omega, by go_num, fun j hj => by by_cases e' : j = k; (subst e'; have := HL7.out; omega); exact HRW.out j (by omega), HB4.out⟩
          case measure => simp [intOf]; omega
        ·obtain rfl : k = W.length := by omega
         have HFW : Hid (Few29 f zs W) := Lib.hid ⟨HFE.out, HSN.out, by omega, by omega, by omega, HRW.out⟩
         have r4 := HX4.out.2
         clear r3
         go_wp2_with fail
         refine (HCH.out _ HBR.out).mono ?_
         rintro e W5 ⟨rfl, hb5⟩
         have HX5 := Lib.hid (HX4.out.ext hb5)
         have HW5 : Hid (Below w.heap.size w W5) := Lib.hid (HBR.out.trans (hb5.mono HBR.out.size))
         clear hb5 r4
         have r5 := HX5.out.2
         by_cases he : checkE f = 0
         ·have he1 : (checkE f != 0) = false := by simpa using he
          go_wp2_with fail
          refine (HWY.out _ HW5.out he).mono ?_
          rintro e W6 ⟨rfl, hb6⟩
          have HX6 := Lib.hid (HX5.out.ext hb6)
          have HW6 : Hid (Below w.heap.size w W6) := Lib.hid (HW5.out.trans (hb6.mono HW5.out.size))
          clear hb6 r5
          have r6 := HX6.out.2
          obtain ⟨wv, hwv⟩ : ∃ x, waysI f f.lots.length = x := ⟨_, rfl⟩
          rw [hwv]
          by_cases h3 : wv ≤ 3000
          ·have h31 : decide (wv ≤ 3000) = true := decide_eq_true h3
           go_wp2
           go_ret
           first | exact ⟨⟨true, rfl, fun _ => HFW.out⟩, HW6.out⟩ | exact ⟨.inr ⟨rfl, HFW.out⟩, HW6.out⟩
          ·have h31 : decide (wv ≤ 3000) = false := decide_eq_false h3
           go_wp2_with fail
           refine (HWY.out _ HW6.out he).mono ?_
           rintro e W7 ⟨rfl, hb7⟩
           have HW7 : Hid (Below w.heap.size w W7) := Lib.hid (HW6.out.trans (hb7.mono HW6.out.size))
           clear hb7 r6
           rw [hwv]
           by_cases h5 : 5040 < wv
           ·have h51 : decide (5040 < wv) = true := decide_eq_true h5
            go_wp2
            go_ret
            first | exact ⟨⟨true, rfl, fun _ => HFW.out⟩, HW7.out⟩ | exact ⟨.inr ⟨rfl, HFW.out⟩, HW7.out⟩
           ·have h51 : decide (5040 < wv) = false := decide_eq_false h5
            go_wp2
            go_ret
            first | exact ⟨⟨false, rfl, fun h => by cases h⟩, HW7.out⟩ | exact ⟨.inl rfl, HW7.out⟩
         ·have he1 : (checkE f != 0) = true := by simpa using he
          go_wp2
          go_ret
          first | exact ⟨⟨true, rfl, fun _ => HFW.out⟩, HW5.out⟩ | exact ⟨.inr ⟨rfl, HFW.out⟩, HW5.out⟩
 ·have h81 : decide (8 < f.senders) = true := decide_eq_true (by omega)
  by_cases h64 : f.senders ≤ 64
  ·have h641 : decide (f.senders ≤ 64) = true := decide_eq_true h64
   go_wp2
   go_ret
   first | exact ⟨⟨false, rfl, fun h => by cases h⟩, HW1.out⟩ | exact ⟨.inl rfl, HW1.out⟩
  ·have HSN : Hid (f.senders ≤ 8 ∨ 64 < f.senders) := Lib.hid (.inr (by omega))
   have h641 : decide (f.senders ≤ 64) = false := decide_eq_false h64
   clear h8 h64
   go_wp2_with fail
   refine (HFL.out _ HW1.out).mono ?_
   rintro e W2 ⟨rfl, hb2⟩
   have HX2 := Lib.hid (HX1.out.ext hb2)
   have HR2 := Lib.hid (HR1.out.ext hb2)
   have HW2 : Hid (Below w.heap.size w W2) := Lib.hid (HW1.out.trans (hb2.mono HW1.out.size))
   clear hb2 r1 d1
   have r2 := HX2.out.2
   have d2 := HR2.out.2
   obtain ⟨FE, hFE⟩ : ∃ x, few25 f = x := ⟨_, rfl⟩
   have HFE := Lib.hid hFE
   rw [hFE]
   clear hFE
   cases FE
   ·go_wp2
    go_ret
    first | exact ⟨⟨false, rfl, fun h => by cases h⟩, HW2.out⟩ | exact ⟨.inl rfl, HW2.out⟩
   ·by_cases hl8 : 8 < f.lots.length
    ·have hl81 : decide (8 < (f.lots.length : Int)) = true := decide_eq_true (by omega)
     go_wp2
     go_ret
     first | exact ⟨⟨false, rfl, fun h => by cases h⟩, HW2.out⟩ | exact ⟨.inl rfl, HW2.out⟩
    ·have hl81 : decide (8 < (f.lots.length : Int)) = false := decide_eq_false (by omega)
     by_cases hz70 : 70 < zs.length
     ·have hz71 : decide (70 < (zs.length : Int)) = true := decide_eq_true (by omega)
      go_wp2
      go_ret
      first | exact ⟨⟨false, rfl, fun h => by cases h⟩, HW2.out⟩ | exact ⟨.inl rfl, HW2.out⟩
     ·have hz71 : decide (70 < (zs.length : Int)) = false := decide_eq_false (by omega)
      by_cases hw30 : 30 < W.length
      ·have hw31 : decide (30 < (W.length : Int)) = true := decide_eq_true (by omega)
       go_wp2
       go_ret
       first | exact ⟨⟨false, rfl, fun h => by cases h⟩, HW2.out⟩ | exact ⟨.inl rfl, HW2.out⟩
      ·have hw31 : decide (30 < (W.length : Int)) = false := decide_eq_false (by omega)
       go_wp2_with fail
       refine (HSZ.out _ HW2.out).mono ?_
       rintro e W3 ⟨⟨r, rfl, hr1, hr2⟩, hb3⟩
       have HX3 := Lib.hid (HX2.out.ext hb3)
       have HW3 : Hid (Below w.heap.size w W3) := Lib.hid (HW2.out.trans (hb3.mono HW2.out.size))
       clear hb3 r2 d2
       have r3 := HX3.out.2
       by_cases hr : 20000 < r
       ·have hr3 : decide (20000 < (r : Int)) = true := decide_eq_true (by omega)
        go_wp2
        go_ret
        first | exact ⟨⟨false, rfl, fun h => by cases h⟩, HW3.out⟩ | exact ⟨.inl rfl, HW3.out⟩
       ·have hr3 : decide (20000 < (r : Int)) = false := decide_eq_false (by omega)
        go_wp2
        try simp only [hr3, hw31, hz71, hl81]
        go_loopw [9] (fun i' wr => ∃ k : Nat, k ≤ W.length ∧ i' = .int .i64 k ∧ (∀ j, j < k → (rowAt W j).length ≤ 70) ∧ Below W3.heap.size W3 wr) (fun i' _ => W.length - (intOf i').toNat)
        case atStart => exact ⟨0, by omega, rfl, fun j hj => by omega, Below.refl _ _⟩
        case round =>
         obtain ⟨k, hk, rfl, hrow, hb4⟩ := hrel
         have HRW := Lib.hid hrow
         have HB4 := Lib.hid hb4
         have HX4 := Lib.hid (HX3.out.ext hb4)
         have HBR : Hid (Below w.heap.size w wr) := Lib.hid (HW3.out.trans (hb4.mono HW3.out.size))
         clear hrow hb4
         by_cases hlt : k < W.length
         ·obtain rfl : aw = some ⟨bw, ow, none⟩ := by rcases HAW.out with h | h; exact h; omega
          obtain ⟨vr, hc1, hc2⟩ := HCW.out k hlt
          obtain ⟨ar, cr, rfl⟩ := hc2.form
          have x0 := (hc1.below HBR.out hB).2
          clear hc1 hc2
          by_cases h70 : 70 < (rowAt W k).length
          ·have h71 : decide (70 < ((rowAt W k).length : Int)) = true := decide_eq_true (by omega)
           go_wp2
           go_ret
           first | exact ⟨⟨false, rfl, fun h => by cases h⟩, HBR.out⟩ | exact ⟨.inl rfl, HBR.out⟩
          ·have h71 : decide (70 < ((rowAt W k).length : Int)) = false := decide_eq_false (by omega)
           have HL7 := Lib.hid h70
           clear h70
           go_wp2
           go_roundw
           case rel => exact ⟨k + 1, by omega, by go_num, fun j hj => by by_cases e' : j = k; (subst e'; have := HL7.out; omega); exact HRW.out j (by omega), HB4.out⟩
           case measure => simp [intOf]; omega
         ·obtain rfl : k = W.length := by omega
          have HFW : Hid (Few29 f zs W) := Lib.hid ⟨HFE.out, HSN.out, by omega, by omega, by omega, HRW.out⟩
          have r4 := HX4.out.2
          clear r3
          go_wp2_with fail
          refine (HCH.out _ HBR.out).mono ?_
          rintro e W5 ⟨rfl, hb5⟩
          have HX5 := Lib.hid (HX4.out.ext hb5)
          have HW5 : Hid (Below w.heap.size w W5) := Lib.hid (HBR.out.trans (hb5.mono HBR.out.size))
          clear hb5 r4
          have r5 := HX5.out.2
          by_cases he : checkE f = 0
          ·have he1 : (checkE f != 0) = false := by simpa using he
           go_wp2_with fail
           refine (HWY.out _ HW5.out he).mono ?_
           rintro e W6 ⟨rfl, hb6⟩
           have HX6 := Lib.hid (HX5.out.ext hb6)
           have HW6 : Hid (Below w.heap.size w W6) := Lib.hid (HW5.out.trans (hb6.mono HW5.out.size))
           clear hb6 r5
           have r6 := HX6.out.2
           obtain ⟨wv, hwv⟩ : ∃ x, waysI f f.lots.length = x := ⟨_, rfl⟩
           rw [hwv]
           by_cases h3 : wv ≤ 3000
           ·have h31 : decide (wv ≤ 3000) = true := decide_eq_true h3
            go_wp2
            go_ret
            first | exact ⟨⟨true, rfl, fun _ => HFW.out⟩, HW6.out⟩ | exact ⟨.inr ⟨rfl, HFW.out⟩, HW6.out⟩
           ·have h31 : decide (wv ≤ 3000) = false := decide_eq_false h3
            go_wp2_with fail
            refine (HWY.out _ HW6.out he).mono ?_
            rintro e W7 ⟨rfl, hb7⟩
            have HW7 : Hid (Below w.heap.size w W7) := Lib.hid (HW6.out.trans (hb7.mono HW6.out.size))
            clear hb7 r6
            rw [hwv]
            by_cases h5 : 5040 < wv
            ·have h51 : decide (5040 < wv) = true := decide_eq_true h5
             go_wp2
             go_ret
             first | exact ⟨⟨true, rfl, fun _ => HFW.out⟩, HW7.out⟩ | exact ⟨.inr ⟨rfl, HFW.out⟩, HW7.out⟩
            ·have h51 : decide (5040 < wv) = false := decide_eq_false h5
             go_wp2
             go_ret
             first | exact ⟨⟨false, rfl, fun h => by cases h⟩, HW7.out⟩ | exact ⟨.inl rfl, HW7.out⟩
          ·have he1 : (checkE f != 0) = true := by simpa using he
           go_wp2
           go_ret
           first | exact ⟨⟨true, rfl, fun _ => HFW.out⟩, HW5.out⟩ | exact ⟨.inr ⟨rfl, HFW.out⟩, HW5.out⟩
end Go.Proofs.Yteiaeaciaglmgaa
set_option linter.unusedVariables false
set_option linter.unusedSimpArgs false
namespace Go.Proofs.Yteiaeaciaglmgaa
open Go.RowKit
set_option maxHeartbeats 4000000 in
set_option maxRecDepth 100000 in
/-- explain.check -/
theorem echeck_any (B : Nat) (w : World) (vs vl va : Value) (f : Flow) (zs : List Int) (hf : IsFlow B w vs vl f) (hx : IsInts B w va zs) (hB : B ≤ w.heap.size) :
  Calls Try.prog 31 #[.agg #[vs, vl], va] w fun e w' => e = .returned (.int .i64 (errX f zs)) ∧ Below w.heap.size w w' := by
 have HF := Lib.hid hf
 obtain ⟨bx, ox, cx, ⟨ax, rfl, hx1, hx2, _⟩, hx3, _⟩ := hx
 obtain ⟨rfl, ⟨hs1, hs2⟩, hl⟩ := hf
 obtain ⟨b, off, cap, ⟨a, rfl, hcap, hmax, ha⟩, hlen, hc⟩ := hl
 have HC := Lib.hid hc
 have HA := Lib.hid ha
 have HE : Hid (errX f zs = if checkE f ≠ 0 then checkE f else if 5040 < waysI f f.lots.length then 2 else if (zs.length : Int) ≠ f.senders then 1 else 0) := Lib.hid rfl
 obtain ⟨ER, hER⟩ : ∃ x, errX f zs = x := ⟨_, rfl⟩
 rw [hER] at HE ⊢
 clear hc ha hER
 go_enter Try.func31, Try.ntmps31
 go_upto_region 1 with fail
 refine wp_name (fun W1 hW1 => ?_)
 have HX1 : Hid (Box W1 w.heap.size #[.int .i64 f.senders, .slice a f.lots.length cap]) := Lib.hid (by rw [hW1]; exact Box.new w #[.int .i64 f.senders, .slice a f.lots.length cap] 24)
 have HW1 : Hid (Below w.heap.size w W1) := Lib.hid (by rw [hW1]; exact box_below' w _)
 clear hW1
 have r1 := HX1.out.2
 go_wp2_with fail
 refine (fcheck_any B W1 _ _ f (HF.out.below HW1.out hB) (Nat.le_trans hB HW1.out.size)).mono ?_
 rintro e W2 ⟨rfl, hb2⟩
 have HX2 := Lib.hid (HX1.out.ext hb2)
 have HW2 : Hid (Below w.heap.size w W2) := Lib.hid (HW1.out.trans (hb2.mono HW1.out.size))
 clear hb2 r1
 have r2 := HX2.out.2
 by_cases he : checkE f = 0
 ·have he1 : (checkE f != 0) = false := by simpa using he
  have HCK := Lib.hid he
  have hl2 : f.lots.length ≤ 2000 := (checkE_ok he).2.2.1
  have HE2 : Hid (ER = if 5040 < waysI f f.lots.length then 2 else if (zs.length : Int) ≠ f.senders then 1 else 0) := Lib.hid (by rw [HE.out, if_neg (by simpa using he)])
  clear he HE
  go_wp2
  try simp only [he1]
  go_loopw [6, 18] (fun n' i' wr => ∃ k : Nat, k ≤ f.lots.length ∧ i' = .int .i64 k ∧ n' = .int .i64 (waysI f k) ∧ Below W2.heap.size W2 wr) (fun _ i' _ => f.lots.length - (intOf i').toNat)
  case atStart => exact ⟨0, by omega, rfl, rfl, Below.refl _ _⟩
  case round =>
   obtain ⟨k, hk, rfl, rfl, hb3⟩ := hrel
   have HB3 := Lib.hid hb3
   have HBR : Hid (Below w.heap.size w wr) := Lib.hid (HW2.out.trans (hb3.mono HW2.out.size))
   have HX3 := Lib.hid (HX2.out.ext hb3)
   clear hb3
   by_cases hlt : k < f.lots.length
   ·obtain rfl : a = some ⟨b, off, none⟩ := by rcases HA.out with h | h; exact h; omega
    obtain ⟨vi, vk, vp, q1, q2, q3, hli, rfl, hlp⟩ := HC.out k hlt
    obtain ⟨ai, ci, rfl⟩ := hli.form
    obtain ⟨ap, cp, rfl⟩ := hlp.form
    have c1 := (q1.below HBR.out hB).2
    have c2 := (q2.below HBR.out hB).2
    have c3 := (q3.below HBR.out hB).2
    have HS : Hid (waysI f (k + 1) = if (lotAt f.lots k).known then waysI f k else wayI (waysI f k) (lotAt f.lots k).ins.length) := Lib.hid rfl
    have hbd := waysI_bd f k
    obtain ⟨N, hN⟩ : ∃ N, waysI f k = N := ⟨_, rfl⟩
    rw [hN] at hbd HS ⊢
    obtain ⟨hb1, hb2⟩ := hbd
    have HO : Hid (wayI N 0 = N) := Lib.hid rfl
    have HBD := Lib.hid (wayI_bd hb1 hb2)
    have hni : (lotAt f.lots k).ins.length ≤ 50000 := ins_small HCK.out hlt
    obtain ⟨n, hn⟩ : ∃ n, (lotAt f.lots k).ins.length = n := ⟨_, rfl⟩
    rw [hn] at c1 HS hni
    clear hN hn q1 q2 q3 hli hlp
    cases hkn : (lotAt f.lots k).known
    ·rw [hkn] at c2 HS
     clear hkn
     have HB4 : Hid (Below W2.heap.size W2 (wr.alloc (.cells #[.slice ai n ci, .bool false, .slice ap (lotAt f.lots k).perm.length cp] 54))) := Lib.hid (HB3.out.alloc HB3.out.size _)
     have HL4 : Hid (Box (wr.alloc (.cells #[.slice ai n ci, .bool false, .slice ap (lotAt f.lots k).perm.length cp] 54)) wr.heap.size #[.slice ai n ci, .bool false, .slice ap (lotAt f.lots k).perm.length cp]) := Lib.hid (Box.new wr _ _)
     obtain ⟨zL, hzL⟩ : ∃ z, z = wr.heap.size := ⟨_, rfl⟩
     go_upto_region 8 with fail
     refine wp_name (fun W4 hW4 => ?_)
     rw [← hW4] at HB4 HL4
     have l4 := HL4.out.2
     clear hW4 hzL zL c1 c2 c3 r2
     go_wp2
     go_loop [6, 25] (fun v' i' => ∃ j : Nat, j ≤ n ∧ i' = .int .i64 j ∧ v' = .int .i64 (wayI N j)) (fun _ i' => n - (intOf i').toNat)
     case atStart => exact ⟨0, by omega, rfl, by rw [HO.out]⟩
     case round =>
      obtain ⟨j, hj, rfl, rfl⟩ := hrel
      have HSJ : Hid (wayI N (j + 1) = min (wayI N j * ((j : Int) + 1)) 5041) := Lib.hid rfl
      obtain ⟨q1, q2⟩ := HBD.out j
      have hmul : 0 ≤ wayI N j * ((j : Int) + 1) ∧ wayI N j * ((j : Int) + 1) ≤ 5041 * 50001 := by
       have h1 := Int.mul_pos (a := wayI N j) (b := (j : Int) + 1) (by omega) (by omega)
       have h2 := Int.mul_le_mul q2 (show (j : Int) + 1 ≤ 50001 by omega) (by omega) (by omega)
       omega
      obtain ⟨x, hx⟩ : ∃ x, wayI N j = x := ⟨_, rfl⟩
      rw [hx] at HSJ hmul q1 q2 ⊢
      obtain ⟨y, hy⟩ : ∃ y, x * ((j : Int) + 1) = y := ⟨_, rfl⟩
      have HX := Lib.hid hx
      rw [hy] at HSJ hmul
      obtain ⟨hm1, hm2⟩ := hmul
      clear hx
      by_cases hjl : j < n
      ·have hwy : IntKind.i64.wrap y = y := by rw [IntWalk.i64_in _ (by omega)]
       go_wp2
       go_round
       case rel => exact ⟨j + 1, by omega, by go_num, by rw [HSJ.out]; rw [show min y 5041 = if 5041 < y then 5041 else y by split <;> omega]⟩
       case measure => simp [intOf]; omega
      ·obtain rfl : j = n := by omega
       go_wp2
       go_roundw
       case rel => exact ⟨k + 1, by omega, by go_num, by rw [HS.out, if_neg (by decide), HX.out], HB4.out⟩
       case measure => simp [intOf]; omega
    ·rw [hkn] at c2 HS
     clear hkn
     have HB4 : Hid (Below W2.heap.size W2 (wr.alloc (.cells #[.slice ai n ci, .bool true, .slice ap (lotAt f.lots k).perm.length cp] 54))) := Lib.hid (HB3.out.alloc HB3.out.size _)
     have HL4 : Hid (Box (wr.alloc (.cells #[.slice ai n ci, .bool true, .slice ap (lotAt f.lots k).perm.length cp] 54)) wr.heap.size #[.slice ai n ci, .bool true, .slice ap (lotAt f.lots k).perm.length cp]) := Lib.hid (Box.new wr _ _)
     go_upto_region 8 with fail
     refine wp_name (fun W4 hW4 => ?_)
     rw [← hW4] at HB4 HL4
     have l4 := HL4.out.2
     clear hW4 c1 c2 c3 r2
     go_wp2
     go_loop [6, 25] (fun v' i' => ∃ j : Nat, j ≤ n ∧ i' = .int .i64 j ∧ v' = .int .i64 N) (fun _ i' => n - (intOf i').toNat)
     case atStart => exact ⟨0, by omega, rfl, rfl⟩
     case round =>
      obtain ⟨j, hj, rfl, rfl⟩ := hrel
      by_cases hjl : j < n
      ·go_wp2
       go_round
       case rel => exact ⟨j + 1, by omega, by go_num, rfl⟩
       case measure => simp [intOf]; omega
      ·obtain rfl : j = n := by omega
       go_wp2
       go_roundw
       case rel => exact ⟨k + 1, by omega, by go_num, by rw [HS.out]; simp, HB4.out⟩
       case measure => simp [intOf]; omega
   ·obtain rfl : k = f.lots.length := by omega
    have r3 := HX3.out.2
    obtain ⟨wv, hwv⟩ : ∃ x, waysI f f.lots.length = x := ⟨_, rfl⟩
    rw [hwv] at HE2 ⊢
    clear r2
    by_cases h5 : 5040 < wv
    ·have h51 : decide (5040 < wv) = true := decide_eq_true h5
     have HE3 : Hid (ER = 2) := Lib.hid (by rw [HE2.out, if_pos h5])
     go_wp2
     go_ret
     exact ⟨by rw [HE3.out]; rfl, HBR.out⟩
    ·have h51 : decide (5040 < wv) = false := decide_eq_false h5
     by_cases hz : (zs.length : Int) = f.senders
     ·have hz1 : ((zs.length : Int) != f.senders) = false := by simpa using hz
      have HE3 : Hid (ER = 0) := Lib.hid (by rw [HE2.out, if_neg h5, if_neg (by simpa using hz)])
      clear hz
      go_wp2
      go_ret
      exact ⟨by rw [HE3.out]; rfl, HBR.out⟩
     ·have hz1 : ((zs.length : Int) != f.senders) = true := by simpa using hz
      have HE3 : Hid (ER = 1) := Lib.hid (by rw [HE2.out, if_neg h5, if_pos (by simpa using hz)])
      clear hz
      go_wp2
      go_ret
      exact ⟨by rw [HE3.out]; rfl, HBR.out⟩
 ·have he1 : (checkE f != 0) = true := by simpa using he
  have HE2 : Hid (ER = checkE f) := Lib.hid (by rw [HE.out, if_pos he])
  go_wp2
  go_ret
  exact ⟨by rw [HE2.out]; rfl, HW2.out⟩
end Go.Proofs.Yteiaeaciaglmgaa
