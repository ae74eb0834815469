/-
  Layer 17: the walks of the parser's token (twice), name, number (printed by tools/geny5.py).
-/
import Derived.Test.YtfnmidddgjlipaaDoorY4
set_option linter.unusedVariables false
set_option linter.unusedSimpArgs false
namespace Go.Proofs.YtfnmidddgjlipaaDoor
open Go.RowKit

def pTok (ok : Tok → Bool) : List Tok → PR Tok
  | [] => .error []
  | t :: r => if ok t then .ok (t, r) else .error (t :: r)
theorem tok_cons (ok : Tok → Bool) (t : Tok) (r : List Tok) : pTok ok (t :: r) = if ok t then .ok (t, r) else .error (t :: r) := rfl
/-- what a part of the parser with a value leaves -/
def ValPost {α : Type} (S B : Nat) (w : World) (stop : Int) (va : Value) (x : WishD) (res : PR α) (f : α → Value) (e : Ending) (w' : World) : Prop :=
  w.grownBy w' (some S) ∧ match res with
    | .ok (a, r) => e = .returned (f a) ∧ Par S B w' stop r va x
    | .error r => e = wrongE stop r
theorem Par.below {S B : Nat} {w w' : World} {stop : Int} {l : List Tok} {va : Value} {x : WishD} (h : Par S B w stop l va x) (hb : Below w.heap.size w w') (hB : B ≤ S) : Par S B w' stop l va x := h.ext hb (by have := h.lt; omega)
theorem grown_ext {S : Nat} {w w' : World} (h : Below w.heap.size w w') : w.grownBy w' (some S) := grown_below h _

end Go.Proofs.YtfnmidddgjlipaaDoor
namespace Go.World.grownBy
theorem trans' {a b c : World} {row : Option Nat} (h : a.grownBy b row) (k : b.grownBy c row) : a.grownBy c row := Go.Proofs.YtfnmidddgjlipaaDoor.grown_trans h k
end Go.World.grownBy
namespace Go.Proofs.YtfnmidddgjlipaaDoor
open Go.RowKit
theorem Par.grown {S B q : Nat} {w w' : World} {stop : Int} {l : List Tok} {va : Value} {x : WishD} (h : Par S B w stop l va x) (hg : w.grownBy w' (some q)) (hne : S ≠ q) (hB : B ≤ q) (hBS : B ≤ S) : Par S B w' stop l va x := by
  obtain ⟨lv, h1, h2⟩ := h
  refine ⟨lv, h1.grown hg (fun e => hne (Option.some.inj e)), h2.below (B' := B) ?_ (Nat.le_refl _)⟩
  exact (Below.refl B w).grown hg (by have := h1.lt; omega) (fun k e => by have e2 := Option.some.inj e; omega)
theorem tok_grown {S q0 : Nat} {w w1 w3 w4 w5 : World} (h1 : Below w.heap.size w w1) (h3 : Below w1.heap.size w1 w3) (h4 : w3.grownBy w4 (some S)) (h5 : w4.grownBy w5 (some q0)) (hq : w.heap.size ≤ q0) : w.grownBy w5 (some S) := by
  have h13 : Below w.heap.size w w3 := h1.trans (h3.mono h1.size)
  refine ⟨h5.os.trans (h4.os.trans h13.os), h5.tape.trans (h4.tape.trans h13.tape), h5.output.trans (h4.output.trans h13.output), ?_, fun k hk hr => ?_⟩
  · have := h13.size; have := h4.size; have := h5.size; omega
  · have e5 := h5.block k (by have := h13.size; have := h4.size; omega) (fun e => by have e2 := Option.some.inj e; omega)
    have e4 := h4.block k (by have := h13.size; omega) hr
    exact e5.trans (e4.trans (h13.block k hk))
set_option maxHeartbeats 2000000 in
set_option maxRecDepth 100000 in
theorem tokenN_any (S B : Nat) (w : World) (stop : Int) (l : List Tok) (va : Value) (x : WishD) (hS : Par S B w stop l va x) (hB : B ≤ S) :
    Calls Tryd.prog 69 #[.pointer (some ⟨S, 0, none⟩), .func (.func 70) #[] #[]] w (ValPost S B w stop va x (pTok (okName) l) tokV) := by
  have HS := Lib.hid hS
  have hlt := hS.lt
  obtain ⟨q0, hq0⟩ : ∃ b, w.heap.size = b := ⟨_, rfl⟩
  obtain ⟨W0, hW0⟩ : ∃ W, w.alloc (.cells #[.int .i64 0, .string ⟨#[]⟩, .int .i64 0, .int .i64 0] 37) = W := ⟨_, rfl⟩
  have HB0 : Hid (Below w.heap.size w W0) := Lib.hid (by rw [← hW0]; exact box_below' w _)
  have HZ0 : Hid (CellsN W0 q0 #[.int .i64 0, .string ⟨#[]⟩, .int .i64 0, .int .i64 0]) := Lib.hid (by rw [← hW0, ← hq0]; exact CellsN.new _ _ _)
  have HQ0 := Lib.hid hq0
  have HW0 := Lib.hid hW0
  have HS0 := Lib.hid (hS.below HB0.out hB)
  clear hS hW0
  obtain ⟨lv, hc, ht⟩ := HS0.out
  have c0 := hc.cell 0
  simp [parC] at c0
  cases l with
  | nil =>
    obtain ⟨a, c, rfl, hcm⟩ := ht.empty
    clear hc ht
    go_enter Tryd.func69, Tryd.ntmps69
    go_upto_region 1 with fail
    rw [HW0.out]
    try rw [hq0]
    clear hq0
    go_wp2_with fail
    refine (fail_any S B W0 stop [] va x HS0.out).mono ?_
    rintro e w2 ⟨rfl, rfl⟩
    go_wp2
    exact ⟨rfl, grown_ext HB0.out, rfl⟩
  | cons t r =>
    obtain ⟨b, off, c, rfl, hl, hcm, hbB, hok, hlen, g0, g1, g2, g3⟩ := ht.head
    have HOK := Lib.hid hok
    have hi1 : (0 : Int) < (r.length : Int) + 1 := by omega
    have hi2 : ((r.length : Int) + 1 == 0) = false := by
      have : ¬ (r.length : Int) + 1 = 0 := by omega
      simpa using this
    clear hc ht
    go_enter Tryd.func69, Tryd.ntmps69
    go_upto_region 1 with fail
    rw [HW0.out]
    try rw [hq0]
    clear hq0
    go_wp2_with fail
    refine (nameC_any t W0 HOK.out).mono ?_
    rintro e w1 ⟨rfl, hb1⟩
    have HB1 := Lib.hid hb1
    have HS1 := Lib.hid (HS0.out.below hb1 hB)
    have hZ1 := HZ0.out.ext hb1
    have HZ1 := Lib.hid hZ1
    have HB01 := Lib.hid (HB0.out.trans (hb1.mono HB0.out.size))
    clear hb1 hZ1 c0 g0 g1 g2 g3
    cases hk : (okName) t with
    | false =>
      have HE : Hid (pTok (okName) (t :: r) = .error (t :: r)) := Lib.hid (by rw [tok_cons, hk]; rfl)
      clear hk
      go_wp2_with fail
      refine (fail_any S B w1 stop (t :: r) va x HS1.out).mono ?_
      rintro e w2 ⟨rfl, rfl⟩
      go_wp2
      exact ⟨rfl, grown_ext HB01.out, by rw [HE.out]⟩
    | true =>
      have HE : Hid (pTok (okName) (t :: r) = .ok (t, r)) := Lib.hid (by rw [tok_cons, hk]; rfl)
      clear hk
      obtain ⟨lv, hc, ht⟩ := HS1.out
      have c0 := hc.cell 0
      simp [parC] at c0
      obtain ⟨b, off, c, rfl, hl, hcm, hbB, hok, hlen, g0, g1, g2, g3⟩ := ht.head
      clear hc ht
      go_upto_region 4 with fail
      obtain ⟨q5, hq5⟩ : ∃ b, w1.heap.size = b := ⟨_, rfl⟩
      obtain ⟨W3, hW3⟩ : ∃ W, w1.alloc (.cells #[.int .i64 t.kind, strV t.text, .int .i64 t.n, .int .i64 t.pos] 37) = W := ⟨_, rfl⟩
      have HB3 : Hid (Below w1.heap.size w1 W3) := Lib.hid (by rw [← hW3]; exact box_below' w1 _)
      have HT3 : Hid (CellsN W3 q5 #[.int .i64 t.kind, strV t.text, .int .i64 t.n, .int .i64 t.pos]) := Lib.hid (by rw [← hW3, ← hq5]; exact CellsN.new _ _ _)
      have HZ3 := Lib.hid (HZ1.out.ext HB3.out)
      have HS3 := Lib.hid (HS1.out.below HB3.out hB)
      have HQ5 := Lib.hid hq5
      rw [hW3]
      try rw [hq5]
      clear hq5 hW3 c0 g0 g1 g2 g3
      obtain ⟨lv, hc, ht⟩ := HS3.out
      have c0 := hc.cell 0
      have f0 := hc.free 0
      simp [parC] at c0
      obtain ⟨b, off, c, rfl, hl, hcm, hbB, hok, hlen, g0, g1, g2, g3⟩ := ht.head
      have HC := Lib.hid hc
      have HT := Lib.hid ht
      clear hc ht g0 g1 g2 g3
      have hne5 : q5 ≠ S := by have := HQ5.out; have := HB01.out.size; omega
      have hne0 : q0 ≠ S := by have := HQ0.out; omega
      have hne05 : q0 ≠ q5 := by have := HQ5.out; have := HQ0.out; have := HB01.out.size; have := HZ1.out.lt; omega
      by_cases hc1 : c = 1
      all_goals
        first
          | (subst hc1
             obtain rfl : r = [] := List.length_eq_zero_iff.1 (by omega)
             go_upto_region 5 with fail
             obtain ⟨W4, hW4⟩ : ∃ W, W3.setCell ⟨S, 0, none⟩ (.slice (some ⟨b, off, none⟩) 0 0) = W := ⟨_, rfl⟩
             have HP4 : Hid (Par S B W4 stop [] va x) := Lib.hid (by rw [← hW4]; exact Par.next HC.out HT.out hB (some ⟨b, off, none⟩) (.inl rfl)))
          | (go_upto_region 5 with fail
             obtain ⟨W4, hW4⟩ : ∃ W, W3.setCell ⟨S, 0, none⟩ (.slice (some ⟨b, off + 4, none⟩) r.length (c - 1)) = W := ⟨_, rfl⟩
             have HP4 : Hid (Par S B W4 stop r va x) := Lib.hid (by rw [← hW4]; exact Par.next HC.out HT.out hB (some ⟨b, off + 4, none⟩) (.inr rfl)))
        have hgr4 : W3.grownBy W4 (some S) := by rw [← hW4]; exact grown_setCell _ _ _
        have HG4 := Lib.hid hgr4
        have ht4 := HT3.out.grown hgr4 (fun e => hne5 (Option.some.inj e))
        have hz4 := HZ3.out.grown hgr4 (fun e => hne0 (Option.some.inj e))
        have HT4 := Lib.hid ht4
        have HZ4 := Lib.hid hz4
        rw [hW4]
        have t0 := ht4.cell 0
        have t1 := ht4.cell 1
        have t2 := ht4.cell 2
        have t3 := ht4.cell 3
        have z0 := hz4.cell 0
        have z1 := hz4.cell 1
        have z2 := hz4.cell 2
        have z3 := hz4.cell 3
        have y0 := hz4.free 0
        have y1 := hz4.free 1
        have y2 := hz4.free 2
        have y3 := hz4.free 3
        simp at t0 t1 t2 t3 z0 z1 z2 z3
        have hend := (((hz4.set 0 (.int .i64 t.kind)).set 1 (strV t.text)).set 2 (.int .i64 t.n)).set 3 (.int .i64 t.pos)
        simp only [List.setIfInBounds_toArray, List.set_cons_zero, List.set_cons_succ] at hend
        have HEND := Lib.hid hend
        clear hW4 hgr4 ht4 hz4 hend c0 f0
        go_wp2
        have u0 := HEND.out.cell 0
        have u1 := HEND.out.cell 1
        have u2 := HEND.out.cell 2
        have u3 := HEND.out.cell 3
        simp at u0 u1 u2 u3
        refine bodyPost_ret (v := tokV t) (by simp [results, Tryd.results69, go_sem, u0, u1, u2, u3]) rfl ?_
        have hgA := (((grown_setCell W4 ⟨q0, 0, none⟩ (.int .i64 t.kind)).trans' (grown_setCell _ ⟨q0, 1, none⟩ (strV t.text))).trans' (grown_setCell _ ⟨q0, 2, none⟩ (.int .i64 t.n))).trans' (grown_setCell _ ⟨q0, 3, none⟩ (.int .i64 t.pos))
        refine ⟨tok_grown HB01.out HB3.out HG4.out hgA (by rw [HQ0.out]; exact Nat.le_refl _), ?_⟩
        rw [HE.out]
        exact ⟨rfl, HP4.out.grown hgA hne0.symm (show B ≤ q0 by have := HQ0.out; have := HS.out.lt; omega) hB⟩

set_option maxHeartbeats 2000000 in
set_option maxRecDepth 100000 in
theorem tokenM_any (S B : Nat) (w : World) (stop : Int) (l : List Tok) (va : Value) (x : WishD) (q : Nat) (m : Int) (hS : Par S B w stop l va x) (hB : B ≤ S) (hm : w.cell? ⟨q, 0, none⟩ = some (.int .i64 m)) :
    Calls Tryd.prog 69 #[.pointer (some ⟨S, 0, none⟩), .func (.func 73) #[] #[.pointer (some ⟨q, 0, none⟩)]] w (ValPost S B w stop va x (pTok (okNum m) l) tokV) := by
  have HS := Lib.hid hS
  have hlt := hS.lt
  obtain ⟨q0, hq0⟩ : ∃ b, w.heap.size = b := ⟨_, rfl⟩
  obtain ⟨W0, hW0⟩ : ∃ W, w.alloc (.cells #[.int .i64 0, .string ⟨#[]⟩, .int .i64 0, .int .i64 0] 37) = W := ⟨_, rfl⟩
  have HB0 : Hid (Below w.heap.size w W0) := Lib.hid (by rw [← hW0]; exact box_below' w _)
  have HZ0 : Hid (CellsN W0 q0 #[.int .i64 0, .string ⟨#[]⟩, .int .i64 0, .int .i64 0]) := Lib.hid (by rw [← hW0, ← hq0]; exact CellsN.new _ _ _)
  have HQ0 := Lib.hid hq0
  have HW0 := Lib.hid hW0
  have HS0 := Lib.hid (hS.below HB0.out hB)
  clear hS hW0
  have HM0 : Hid (W0.cell? ⟨q, 0, none⟩ = some (.int .i64 m)) := Lib.hid ((HB0.out.cell (p := ⟨q, 0, none⟩) (cell_spotY hm).2).trans hm)
  clear hm
  obtain ⟨lv, hc, ht⟩ := HS0.out
  have c0 := hc.cell 0
  simp [parC] at c0
  cases l with
  | nil =>
    obtain ⟨a, c, rfl, hcm⟩ := ht.empty
    clear hc ht
    go_enter Tryd.func69, Tryd.ntmps69
    go_upto_region 1 with fail
    rw [HW0.out]
    try rw [hq0]
    clear hq0
    go_wp2_with fail
    refine (fail_any S B W0 stop [] va x HS0.out).mono ?_
    rintro e w2 ⟨rfl, rfl⟩
    go_wp2
    exact ⟨rfl, grown_ext HB0.out, rfl⟩
  | cons t r =>
    obtain ⟨b, off, c, rfl, hl, hcm, hbB, hok, hlen, g0, g1, g2, g3⟩ := ht.head
    have HOK := Lib.hid hok
    have hi1 : (0 : Int) < (r.length : Int) + 1 := by omega
    have hi2 : ((r.length : Int) + 1 == 0) = false := by
      have : ¬ (r.length : Int) + 1 = 0 := by omega
      simpa using this
    clear hc ht
    go_enter Tryd.func69, Tryd.ntmps69
    go_upto_region 1 with fail
    rw [HW0.out]
    try rw [hq0]
    clear hq0
    go_wp2_with fail
    refine (numC_any t W0 HOK.out q m HM0.out).mono ?_
    rintro e w1 ⟨rfl, hb1⟩
    have HB1 := Lib.hid hb1
    have HS1 := Lib.hid (HS0.out.below hb1 hB)
    have hZ1 := HZ0.out.ext hb1
    have HZ1 := Lib.hid hZ1
    have HB01 := Lib.hid (HB0.out.trans (hb1.mono HB0.out.size))
    clear hb1 hZ1 c0 g0 g1 g2 g3
    cases hk : (okNum m) t with
    | false =>
      have HE : Hid (pTok (okNum m) (t :: r) = .error (t :: r)) := Lib.hid (by rw [tok_cons, hk]; rfl)
      clear hk
      go_wp2_with fail
      refine (fail_any S B w1 stop (t :: r) va x HS1.out).mono ?_
      rintro e w2 ⟨rfl, rfl⟩
      go_wp2
      exact ⟨rfl, grown_ext HB01.out, by rw [HE.out]⟩
    | true =>
      have HE : Hid (pTok (okNum m) (t :: r) = .ok (t, r)) := Lib.hid (by rw [tok_cons, hk]; rfl)
      clear hk
      obtain ⟨lv, hc, ht⟩ := HS1.out
      have c0 := hc.cell 0
      simp [parC] at c0
      obtain ⟨b, off, c, rfl, hl, hcm, hbB, hok, hlen, g0, g1, g2, g3⟩ := ht.head
      clear hc ht
      go_upto_region 4 with fail
      obtain ⟨q5, hq5⟩ : ∃ b, w1.heap.size = b := ⟨_, rfl⟩
      obtain ⟨W3, hW3⟩ : ∃ W, w1.alloc (.cells #[.int .i64 t.kind, strV t.text, .int .i64 t.n, .int .i64 t.pos] 37) = W := ⟨_, rfl⟩
      have HB3 : Hid (Below w1.heap.size w1 W3) := Lib.hid (by rw [← hW3]; exact box_below' w1 _)
      have HT3 : Hid (CellsN W3 q5 #[.int .i64 t.kind, strV t.text, .int .i64 t.n, .int .i64 t.pos]) := Lib.hid (by rw [← hW3, ← hq5]; exact CellsN.new _ _ _)
      have HZ3 := Lib.hid (HZ1.out.ext HB3.out)
      have HS3 := Lib.hid (HS1.out.below HB3.out hB)
      have HQ5 := Lib.hid hq5
      rw [hW3]
      try rw [hq5]
      clear hq5 hW3 c0 g0 g1 g2 g3
      obtain ⟨lv, hc, ht⟩ := HS3.out
      have c0 := hc.cell 0
      have f0 := hc.free 0
      simp [parC] at c0
      obtain ⟨b, off, c, rfl, hl, hcm, hbB, hok, hlen, g0, g1, g2, g3⟩ := ht.head
      have HC := Lib.hid hc
      have HT := Lib.hid ht
      clear hc ht g0 g1 g2 g3
      have hne5 : q5 ≠ S := by have := HQ5.out; have := HB01.out.size; omega
      have hne0 : q0 ≠ S := by have := HQ0.out; omega
      have hne05 : q0 ≠ q5 := by have := HQ5.out; have := HQ0.out; have := HB01.out.size; have := HZ1.out.lt; omega
      by_cases hc1 : c = 1
      all_goals
        first
          | (subst hc1
             obtain rfl : r = [] := List.length_eq_zero_iff.1 (by omega)
             go_upto_region 5 with fail
             obtain ⟨W4, hW4⟩ : ∃ W, W3.setCell ⟨S, 0, none⟩ (.slice (some ⟨b, off, none⟩) 0 0) = W := ⟨_, rfl⟩
             have HP4 : Hid (Par S B W4 stop [] va x) := Lib.hid (by rw [← hW4]; exact Par.next HC.out HT.out hB (some ⟨b, off, none⟩) (.inl rfl)))
          | (go_upto_region 5 with fail
             obtain ⟨W4, hW4⟩ : ∃ W, W3.setCell ⟨S, 0, none⟩ (.slice (some ⟨b, off + 4, none⟩) r.length (c - 1)) = W := ⟨_, rfl⟩
             have HP4 : Hid (Par S B W4 stop r va x) := Lib.hid (by rw [← hW4]; exact Par.next HC.out HT.out hB (some ⟨b, off + 4, none⟩) (.inr rfl)))
        have hgr4 : W3.grownBy W4 (some S) := by rw [← hW4]; exact grown_setCell _ _ _
        have HG4 := Lib.hid hgr4
        have ht4 := HT3.out.grown hgr4 (fun e => hne5 (Option.some.inj e))
        have hz4 := HZ3.out.grown hgr4 (fun e => hne0 (Option.some.inj e))
        have HT4 := Lib.hid ht4
        have HZ4 := Lib.hid hz4
        rw [hW4]
        have t0 := ht4.cell 0
        have t1 := ht4.cell 1
        have t2 := ht4.cell 2
        have t3 := ht4.cell 3
        have z0 := hz4.cell 0
        have z1 := hz4.cell 1
        have z2 := hz4.cell 2
        have z3 := hz4.cell 3
        have y0 := hz4.free 0
        have y1 := hz4.free 1
        have y2 := hz4.free 2
        have y3 := hz4.free 3
        simp at t0 t1 t2 t3 z0 z1 z2 z3
        have hend := (((hz4.set 0 (.int .i64 t.kind)).set 1 (strV t.text)).set 2 (.int .i64 t.n)).set 3 (.int .i64 t.pos)
        simp only [List.setIfInBounds_toArray, List.set_cons_zero, List.set_cons_succ] at hend
        have HEND := Lib.hid hend
        clear hW4 hgr4 ht4 hz4 hend c0 f0
        go_wp2
        have u0 := HEND.out.cell 0
        have u1 := HEND.out.cell 1
        have u2 := HEND.out.cell 2
        have u3 := HEND.out.cell 3
        simp at u0 u1 u2 u3
        refine bodyPost_ret (v := tokV t) (by simp [results, Tryd.results69, go_sem, u0, u1, u2, u3]) rfl ?_
        have hgA := (((grown_setCell W4 ⟨q0, 0, none⟩ (.int .i64 t.kind)).trans' (grown_setCell _ ⟨q0, 1, none⟩ (strV t.text))).trans' (grown_setCell _ ⟨q0, 2, none⟩ (.int .i64 t.n))).trans' (grown_setCell _ ⟨q0, 3, none⟩ (.int .i64 t.pos))
        refine ⟨tok_grown HB01.out HB3.out HG4.out hgA (by rw [HQ0.out]; exact Nat.le_refl _), ?_⟩
        rw [HE.out]
        exact ⟨rfl, HP4.out.grown hgA hne0.symm (show B ≤ q0 by have := HQ0.out; have := HS.out.lt; omega) hB⟩

end Go.Proofs.YtfnmidddgjlipaaDoor
