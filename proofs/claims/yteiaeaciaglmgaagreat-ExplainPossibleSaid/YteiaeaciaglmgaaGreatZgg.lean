/- Layers EX20 EX21 EX22 EX23 EX24 EX25 EX26 EX27 EX28 EX29 EX30 EX31 EX32 EX33 EL1 CaP Open EL7: the walks and the plain laws under the last text, merged and cut to what it uses; nothing is assumed. -/
import Derived.Test.YteiaeaciaglmgaaGreatRows
import Derived.ProofKit
import Derived.SizedLaws
import Derived.Deep.Slices
import Derived.Deep.Strs
import Derived.Test.YteiaeaciaglmgaaGreatZgf
set_option linter.unusedVariables false
set_option linter.unusedSimpArgs false
namespace Go.Proofs.YteiaeaciaglmgaaGreat
open Go.RowKit
set_option maxHeartbeats 8000000 in
set_option maxRecDepth 100000 in
/-- all lots are done, and the denial names one -/
theorem refend_any (B : Nat) (W : World) (cn cF cX cA bm : Nat) (p : Den) (inV eachV : Value) (hd : DenC B W cn p) (hl : p.lot ≠ -1) :
  Calls Tryz.prog 34 #[.map (some bm), .int .i64 (-1), inV, eachV, .pointer (some ⟨cn, 0, none⟩), .pointer (some ⟨cF, 0, none⟩), .pointer (some ⟨cX, 0, none⟩), .pointer (some ⟨cA, 0, none⟩)] W fun e W' =>
   e = .returned (.bool false) ∧ Below W.heap.size W W' := by
 obtain ⟨y0, y1, y2, y3, h1, h2⟩ := hd
 obtain ⟨ak, ck, e, _⟩ := h2.form
 simp only [List.cons.injEq, and_true] at e
 obtain ⟨rfl, rfl, rfl, rfl⟩ := e
 have m0 := h1.cell 0
 have m1 := h1.cell 1
 have m2 := h1.cell 2
 have m3 := h1.cell 3
 simp at m0 m1 m2 m3
 obtain ⟨l, hle⟩ : ∃ x, p.lot = x := ⟨_, rfl⟩
 rw [hle] at m0 hl
 clear h1 h2 hle
 have hl1 : (l == -1) = false := by simpa using hl
 go_enter Tryz.func34, Tryz.ntmps34
 go_upto_region 2 with fail
 refine wp_name (fun W1 hW1 => ?_)
 have HB1 : Hid (Below W.heap.size W W1) := Lib.hid (by rw [hW1]; exact box_below' W _)
 have HD1 : Hid (CellsN W1 W.heap.size #[.int .i64 l, .int .i64 p.inn, .slice ak p.kids.length ck, .int .i64 p.sender]) := Lib.hid (by rw [hW1]; exact CellsN.new W _ _)
 clear hW1 m0 m1 m2 m3
 have n0 := HD1.out.cell 0
 simp at n0
 go_wp2
 go_quiet (fail)
 go_wp2
 go_ret
 exact ⟨rfl, below_drewN HB1.out _⟩
set_option maxHeartbeats 8000000 in
set_option maxRecDepth 100000 in
/-- a lot is next, and the denial does not fit -/
theorem refmis_any (B : Nat) (W : World) (cn cF cX cA bm k it : Nat) (vl : Value) (f : Flow) (p : Den) (eachV : Value) (hd : DenC B W cn p) (hF : Box W cF #[.int .i64 f.senders, vl]) (hlo : IsLots B W vl f.lots) (hB : B ≤ W.heap.size) (hc : checkE f = 0) (hk : k < f.lots.length) (hit : it ≤ (lotAt f.lots k).ins.length) (hl : p.lot ≠ -1)
  (hR : (decide (p.lot = (k : Nat)) && (decide (p.inn = (it : Nat)) && (decide (p.sender = 0) && decide ((p.kids.length : Int) = (lotAt f.lots k).ins.length - it)))) = false) :
  Calls Tryz.prog 34 #[.map (some bm), .int .i64 (k : Int), .int .i64 (it : Int), eachV, .pointer (some ⟨cn, 0, none⟩), .pointer (some ⟨cF, 0, none⟩), .pointer (some ⟨cX, 0, none⟩), .pointer (some ⟨cA, 0, none⟩)] W fun e W' =>
   e = .returned (.bool false) ∧ Below W.heap.size W W' := by
 obtain ⟨y0, y1, y2, y3, h1, h2⟩ := hd
 obtain ⟨ak, ck, e, _⟩ := h2.form
 simp only [List.cons.injEq, and_true] at e
 obtain ⟨rfl, rfl, rfl, rfl⟩ := e
 have m0 := h1.cell 0
 have m1 := h1.cell 1
 have m2 := h1.cell 2
 have m3 := h1.cell 3
 simp at m0 m1 m2 m3
 obtain ⟨b, off, cap, ⟨a, rfl, hL1, hL2, hL3⟩, hL4, hL5⟩ := hlo
 obtain rfl : a = some ⟨b, off, none⟩ := by rcases hL3 with h | h; exact h; omega
 obtain ⟨vi, vk, vp, q1, _, _, hli, _, _⟩ := hL5 k hk
 obtain ⟨ai, ci, rfl⟩ := hli.form
 have HQ1 := Lib.hid q1
 have hni : (lotAt f.lots k).ins.length ≤ 50000 := ins_small hc hk
 have h2000 := (checkE_ok hc).2.2.1
 have HF := Lib.hid hF
 obtain ⟨l, hle⟩ : ∃ x, p.lot = x := ⟨_, rfl⟩
 obtain ⟨i, hie⟩ : ∃ x, p.inn = x := ⟨_, rfl⟩
 obtain ⟨s, hse⟩ : ∃ x, p.sender = x := ⟨_, rfl⟩
 obtain ⟨nk, hnk⟩ : ∃ x, p.kids.length = x := ⟨_, rfl⟩
 obtain ⟨N, hN⟩ : ∃ x, (lotAt f.lots k).ins.length = x := ⟨_, rfl⟩
 rw [hle] at m0 hl hR
 rw [hie] at m1 hR
 rw [hse] at m3 hR
 rw [hnk] at m2 hR
 rw [hN] at hR HQ1 hni hit
 have HRR := Lib.hid hR
 clear h1 h2 hle hie hse hnk hN hR hF hL3 hL5 q1 hli
 have hl1 : (l == -1) = false := by simpa using hl
 have hkl : decide ((k : Int) < 0) = false := decide_eq_false (by omega)
 go_enter Tryz.func34, Tryz.ntmps34
 go_upto_region 2 with fail
 refine wp_name (fun W1 hW1 => ?_)
 have HB1 : Hid (Below W.heap.size W W1) := Lib.hid (by rw [hW1]; exact box_below' W _)
 have HD1 : Hid (CellsN W1 W.heap.size #[.int .i64 l, .int .i64 i, .slice ak nk ck, .int .i64 s]) := Lib.hid (by rw [hW1]; exact CellsN.new W _ _)
 clear hW1 m0 m1 m2 m3
 have n0 := HD1.out.cell 0
 have n1 := HD1.out.cell 1
 have n2 := HD1.out.cell 2
 have n3 := HD1.out.cell 3
 simp at n0 n1 n2 n3
 have n4 := (HF.out.ext HB1.out).2 1
 simp at n4
 have n5 := (HQ1.out.below (HB1.out.mono hB) (Nat.le_refl _)).2
 have hsub : IntKind.i64.wrap ((N : Int) - (it : Int)) = (N : Int) - it := IntWalk.i64_in _ (by omega)
 by_cases hlk : l = (k : Int)
 ·subst hlk
  have hl2 : (((k : Int)) != (k : Int)) = false := by simp
  by_cases hii : i = (it : Int)
  ·subst hii
   by_cases hs0 : s = 0
   ·subst hs0
    have hnn : ((nk : Int) != (N : Int) - it) = true := by
     have h := HRR.out
     simp at h
     simpa using h
    go_wp2
    go_quiet (fail)
    go_wp2
    go_ret
    exact ⟨rfl, below_drewN HB1.out _⟩
   ·have hs1 : (s != 0) = true := by simpa using hs0
    go_wp2
    go_quiet (fail)
    go_wp2
    go_ret
    exact ⟨rfl, below_drewN HB1.out _⟩
  ·have hi1 : (i != (it : Int)) = true := by simpa using hii
   go_wp2
   go_quiet (fail)
   go_wp2
   go_ret
   exact ⟨rfl, below_drewN HB1.out _⟩
 ·have hl3 : (l != (k : Int)) = true := by simpa using hlk
  go_wp2
  go_quiet (fail)
  go_wp2
  go_ret
  exact ⟨rfl, below_drewN HB1.out _⟩
end Go.Proofs.YteiaeaciaglmgaaGreat
namespace Go.Proofs.YteiaeaciaglmgaaGreat
open Go.RowKit
set_option maxHeartbeats 8000000 in
set_option maxRecDepth 100000 in
/-- a lot is next, and the denial fits -/
theorem refgo_any (B : Nat) (W : World) (cn cF cX cA bm k it : Nat) (vl : Value) (f : Flow) (p : Den) (e1 e2 e3 e4 e5 e6 e7 : Value) (RB : Bool) (Post : World → Prop) (hd : DenC B W cn p) (hF : Box W cF #[.int .i64 f.senders, vl]) (hlo : IsLots B W vl f.lots) (hB : B ≤ W.heap.size) (hc : checkE f = 0) (hk : k < f.lots.length) (hit : it ≤ (lotAt f.lots k).ins.length) (hl : p.lot ≠ -1)
  (hcall : ∀ W2, Below W.heap.size W W2 → DenC B W2 W.heap.size p → Calls Tryz.prog 53 #[.func (.func 35) #[] #[.pointer (some ⟨W.heap.size, 0, none⟩), .pointer (some ⟨cn, 0, none⟩)], e1, e2, e3, e4, e5, e6, e7] W2 fun e W' => e = .returned (.bool RB) ∧ Post W')
  (hR : (decide (p.lot = (k : Nat)) && (decide (p.inn = (it : Nat)) && (decide (p.sender = 0) && decide ((p.kids.length : Int) = (lotAt f.lots k).ins.length - it)))) = true) :
  Calls Tryz.prog 34 #[.map (some bm), .int .i64 (k : Int), .int .i64 (it : Int), .func (.func 53) #[] #[e1, e2, e3, e4, e5, e6, e7], .pointer (some ⟨cn, 0, none⟩), .pointer (some ⟨cF, 0, none⟩), .pointer (some ⟨cX, 0, none⟩), .pointer (some ⟨cA, 0, none⟩)] W fun e W' =>
   e = .returned (.bool RB) ∧ Post W' := by
 have HCA := Lib.hid hcall
 have hmf := @run_makeFunc_any Tryz.prog
 clear hcall
 obtain ⟨y0, y1, y2, y3, h1, h2⟩ := hd
 obtain ⟨ak, ck, e, _⟩ := h2.form
 simp only [List.cons.injEq, and_true] at e
 obtain ⟨rfl, rfl, rfl, rfl⟩ := e
 have m0 := h1.cell 0
 have m1 := h1.cell 1
 have m2 := h1.cell 2
 have m3 := h1.cell 3
 simp at m0 m1 m2 m3
 obtain ⟨b, off, cap, ⟨a, rfl, hL1, hL2, hL3⟩, hL4, hL5⟩ := hlo
 obtain rfl : a = some ⟨b, off, none⟩ := by rcases hL3 with h | h; exact h; omega
 obtain ⟨vi, vk, vp, q1, _, _, hli, _, _⟩ := hL5 k hk
 obtain ⟨ai, ci, rfl⟩ := hli.form
 have HQ1 := Lib.hid q1
 have hni : (lotAt f.lots k).ins.length ≤ 50000 := ins_small hc hk
 have h2000 := (checkE_ok hc).2.2.1
 have HF := Lib.hid hF
 obtain ⟨l, hle⟩ : ∃ x, p.lot = x := ⟨_, rfl⟩
 obtain ⟨i, hie⟩ : ∃ x, p.inn = x := ⟨_, rfl⟩
 obtain ⟨s, hse⟩ : ∃ x, p.sender = x := ⟨_, rfl⟩
 obtain ⟨nk, hnk⟩ : ∃ x, p.kids.length = x := ⟨_, rfl⟩
 obtain ⟨N, hN⟩ : ∃ x, (lotAt f.lots k).ins.length = x := ⟨_, rfl⟩
 rw [hle] at m0 hl hR h2
 rw [hie] at m1 hR h2
 rw [hse] at m3 hR h2
 rw [hnk] at m2 hR h2
 rw [hN] at hR HQ1 hni hit
 simp only [Bool.and_eq_true, decide_eq_true_eq] at hR
 obtain ⟨hlk, hii, hs0, hnn0⟩ := hR
 subst hlk hii hs0
 have HNN := Lib.hid hnn0
 clear hnn0
 have HPE : Hid (IsDen B W [.int .i64 (k : Int), .int .i64 (it : Int), .slice ak nk ck, .int .i64 0] p) := Lib.hid h2
 clear h1 h2 hle hie hse hnk hN hF hL3 hL5 q1 hli
 have hl1 : ((k : Int) == -1) = false := by simp
 have hkl : decide ((k : Int) < 0) = false := decide_eq_false (by omega)
 go_enter Tryz.func34, Tryz.ntmps34
 go_upto_region 2 with fail
 refine wp_name (fun W1 hW1 => ?_)
 have HB1 : Hid (Below W.heap.size W W1) := Lib.hid (by rw [hW1]; exact box_below' W _)
 have HD1 : Hid (CellsN W1 W.heap.size #[.int .i64 (k : Int), .int .i64 (it : Int), .slice ak nk ck, .int .i64 0]) := Lib.hid (by rw [hW1]; exact CellsN.new W _ _)
 clear hW1 m0 m1 m2 m3
 have n0 := HD1.out.cell 0
 have n1 := HD1.out.cell 1
 have n2 := HD1.out.cell 2
 have n3 := HD1.out.cell 3
 simp at n0 n1 n2 n3
 have n4 := (HF.out.ext HB1.out).2 1
 simp at n4
 have n5 := (HQ1.out.below (HB1.out.mono hB) (Nat.le_refl _)).2
 have hsub : IntKind.i64.wrap ((N : Int) - (it : Int)) = (N : Int) - it := IntWalk.i64_in _ (by omega)
 have HDC1 : Hid (∀ n, DenC B (W1.drewN n) W.heap.size p) := Lib.hid (fun n => ⟨_, _, _, _, HD1.out.turned (Turned.of_below (X := fun _ => False) (below_drewN (Below.refl _ W1) n)) (fun e => e), HPE.out.below (below_drewN (HB1.out.mono hB) n) (Nat.le_refl _)⟩)
 have HCB := Lib.hid (fun n => HCA.out (W1.drewN n) (below_drewN HB1.out n) (HDC1.out n))
 clear HDC1
 have hl2 : (((k : Int)) != (k : Int)) = false := by simp
 have hi2 : (((it : Int)) != (it : Int)) = false := by simp
 have hnn : ((nk : Int) != (N : Int) - it) = false := by rw [HNN.out]; simp
 go_wp2
 go_quiet (fail)
 go_wp2_with (go_at_call 53; refine (HCB.out _).mono ?_; rintro e w9 ⟨rfl, hq9⟩; have HQ9 := Lib.hid hq9; clear hq9)
 go_ret
 exact ⟨rfl, HQ9.out⟩
end Go.Proofs.YteiaeaciaglmgaaGreat
namespace Go.Proofs.YteiaeaciaglmgaaGreat
open Go.RowKit
theorem each_rk (g : Int → Den → Bool) (part : List Int) (kids : List Den) : ∀ m, eachB (fun j i => g (i : Int) (denAt kids j)) part m = rkTo g part kids m
 | 0 => rfl
 | m + 1 => by simp only [eachB, rkTo, each_rk g part kids m]
theorem posS_bd {f : Flow} {w : List (List Int)} {part : List Int} (hc : checkE f = 0) (hso : StOk f w part) {s : Nat} (hs : s < f.senders.toNat) : 0 ≤ posS f w part s ∧ posS f w part s < beforeI f f.lots.length := by
 obtain ⟨h0, _, _, _, hlo⟩ := checkE_ok hc
 have h1 := pos_lt h0 hso.len (lotsB_le hlo hso.len) hso.way hs
 have hb := beforeI_mono (f := f) hso.len
 by_cases hk : w.length < f.lots.length
 ·obtain ⟨_, l2, _⟩ := lotB_parts (lotsB_lot hlo hk)
  have hb2 := beforeI_mono (f := f) (show w.length + 1 ≤ f.lots.length by omega)
  have e : beforeI f (w.length + 1) = beforeI f w.length + (lotAt f.lots w.length).ins.length := rfl
  have h3 := (before_bd hc hso.len).1
  unfold posS
  rcases mv_cases l2 hso.fit part (beforeI f w.length) (posW f w w.length s) with ⟨j, hj, h⟩ | h
  ·rw [h]
   have h2 := hso.low _ (nth_mem' hj)
   omega
  ·rw [h]; omega
 ·have hp : part = [] := by
   have := hso.fit
   rw [lotAt_out (by omega)] at this
   exact List.eq_nil_of_length_eq_zero (by simpa using this)
  subst hp
  unfold posS
  simp only [List.length_nil]
  rw [mv_zero]
  omega
theorem bad_lead {f : Flow} {a : List Int} {w : List (List Int)} {part : List Int} (hc : checkE f = 0) (hso : StOk f w part) {s : Nat} (hs : s < f.senders.toNat) : badB f a w part s = !leadE f (posS f w part s) (nth a s) := by
 obtain ⟨h1, h2⟩ := posS_bd hc hso hs
 unfold badB
 rw [lead_rAt hc h1 h2]
theorem stuck_least {f : Flow} {a : List Int} {w : List (List Int)} {part : List Int} (hc : checkE f = 0) (hso : StOk f w part) : stuckI f a w part = leastN (fun i => !leadE f (posS f w part i) (nth a i)) f.senders.toNat := by
 have h : ∀ n, n ≤ f.senders.toNat → leastN (badB f a w part) n = leastN (fun i => !leadE f (posS f w part i) (nth a i)) n := by
  intro n
  induction n with
  | zero => intro _; rfl
  | succ n ih => intro hn; simp only [leastN, ih (by omega), bad_lead hc hso (show n < f.senders.toNat by omega)]
 exact h _ (Nat.le_refl _)
end Go.Proofs.YteiaeaciaglmgaaGreat
namespace Go.Proofs.YteiaeaciaglmgaaGreat
open Go.RowKit
/-- the blocks of Refutes -/
structure EnvR where
 B : Nat
 C1 : Nat
 D1 : Nat
 q1 : Nat
 cn : Nat
 cF : Nat
 cX : Nat
 cA : Nat
 top : Nat
 vl : Value
 va : Value
 f : Flow
 zs : List Int
structure EnvR.Ok (R : EnvR) : Prop where
 b1 : R.B ≤ R.cn ∧ R.cn < R.top
 b2 : R.B ≤ R.top ∧ R.D1 ≤ R.top
 b3 : R.cF < R.top ∧ R.cX < R.top ∧ R.cA < R.top
 ne : R.cn ≠ R.cF ∧ R.cn ≠ R.cX ∧ R.cn ≠ R.cA
 nl : R.cn < R.C1 ∨ R.D1 ≤ R.cn
 ck : checkE R.f = 0
 len : (R.zs.length : Int) = R.f.senders
structure RefS (R : EnvR) (W : World) : Prop where
 bF : Box W R.cF #[.int .i64 R.f.senders, R.vl]
 bX : Cell1 W R.cX (.pointer (some ⟨R.q1, 0, none⟩))
 bA : Cell1 W R.cA R.va
 lots : LotsAt R.C1 R.D1 W R.q1 R.vl R.f
 flow : IsLots R.B W R.vl R.f.lots
 ints : IsInts R.B W R.va R.zs
 sz : R.top ≤ W.heap.size
theorem RefS.turned {R : EnvR} (hR : R.Ok) {W W' : World} (h : RefS R W) {X : Nat → Prop} (ht : Turned X W W') (hX : ∀ q, X q → q = R.cn ∨ R.top ≤ q) : RefS R W' := by
 have h1 := hR.b1
 have h2 := hR.b2
 have h3 := hR.b3
 obtain ⟨n1, n2, n3⟩ := hR.ne
 have h4 := hR.nl
 have hs := h.sz
 have hn : ∀ q, q < R.top → q ≠ R.cn → ¬ X q := fun q a b c => by rcases hX q c with e | e; exact b e; omega
 have hb := ht.below (B := R.B) (by omega) (fun q hq => hn q (by omega) (by omega))
 exact ⟨h.bF.turned ht (hn _ (by omega) (by omega)), h.bX.turned ht (hn _ (by omega) (by omega)), h.bA.turned ht (hn _ (by omega) (by omega)), h.lots.turned ht (fun q a b => hn q (by omega) (by omega)), h.flow.below hb (Nat.le_refl _), h.ints.below hb (Nat.le_refl _), Nat.le_trans hs ht.size⟩
/-- Refutes calls walk -/
def refCl (R : EnvR) (hR : R.Ok) (E : EnvW) : Client E where
 T := Den
 At d W := R.top ≤ E.bm → RefS R W ∧ DenC R.B W R.cn d
 Dn _ _ _ _ W := R.top ≤ E.bm → R.top ≤ W.heap.size ∧ ∃ d, DenC R.B W R.cn d
 X _ q := q = R.cn
 X0 q := q = R.cn
 res n d w part := rightN R.f R.zs n w part d
 keep := fun d W W' h ht hb => by
  obtain ⟨h1, h2⟩ := h hb
  have b1 := hR.b1
  have b2 := hR.b2
  exact ⟨h1.turned hR ht (fun q e => .inr (by omega)), h2.turned ht (by omega) (by have := h1.sz; omega) (fun k hk e => by omega)⟩
 keepD := fun _ d _ _ W W' h ht hb => by
  obtain ⟨h1, d2, h2⟩ := h hb
  have b1 := hR.b1
  have b2 := hR.b2
  exact ⟨Nat.le_trans h1 ht.size, d2, h2.turned ht (by omega) (by omega) (fun k hk e => by omega)⟩
structure RefE (R : EnvR) (E : EnvW) : Prop where
 ok : E.Ok
 b : E.B = R.B
 f : E.f = R.f
 pf : E.pf = 34
 p1 : E.p1 = .pointer (some ⟨R.cn, 0, none⟩)
 p2 : E.p2 = .pointer (some ⟨R.cF, 0, none⟩)
 p3 : E.p3 = .pointer (some ⟨R.cX, 0, none⟩)
 p4 : E.p4 = .pointer (some ⟨R.cA, 0, none⟩)
 top : R.top ≤ E.bm
theorem right_leaf {f : Flow} {a : List Int} {n : Nat} {w : List (List Int)} {part : List Int} {p : Den} (hc : checkE f = 0) (hso : StOk f w part) (hs : settleS f w part = (w, part)) (hl : p.lot = -1) :
  rightN f a n w part p = (decide (p.inn = 0) && (decide (p.kids.length = 0) && (decide (0 ≤ p.sender) && (decide (p.sender < f.senders) && !leadE f (posS f w part p.sender.toNat) (nth a p.sender.toNat))))) := by
 cases n <;> (unfold rightN; rw [if_pos hl, hs]) <;>
 ·by_cases h1 : 0 ≤ p.sender
  ·by_cases h2 : p.sender < f.senders
   ·rw [bad_lead hc hso (by omega)]
   ·simp [h2]
  ·simp [h1]
theorem right_end {f : Flow} {a : List Int} {n : Nat} {w : List (List Int)} {part : List Int} {p : Den} (hw : w.length = f.lots.length) (hl : p.lot ≠ -1) : rightN f a n w part p = false := by
 have hs := settle_end (part := part) hw
 cases n <;> (unfold rightN; rw [if_neg hl, hs]; simp [hw])
theorem ref_end (R : EnvR) (hR : R.Ok) (E : EnvW) (hE : RefE R E) : EndC E (refCl R hR E) := by
 intro m w W t hso hw hS hat hX
 obtain ⟨h1, h2⟩ := hat hE.top
 have hse := settle_end (f := E.f) (part := []) hw
 rw [hE.pf, hE.p1, hE.p2, hE.p3, hE.p4]
 have hB : R.B ≤ W.heap.size := Nat.le_trans hR.b2.1 h1.sz
 have hmp := hS.mp
 have hn : E.n = R.f.senders.toNat := by unfold EnvW.n; rw [hE.f]
 rw [hn] at hmp
 rw [hE.f] at hso hse hmp hw
 have fin : ∀ (b : Bool) (e : Ending) (W' : World), (e = .returned (.bool b) ∧ Below W.heap.size W W') → rightN R.f R.zs m w [] t = b →
   e = .returned (.bool ((refCl R hR E).res m t w [])) ∧ WalkS E w [] W' ∧ Turned (fun q => q = E.bm ∨ (refCl R hR E).X t q) W W' ∧ (refCl R hR E).Dn m t w [] W' := by
  rintro b e W' ⟨rfl, hb⟩ rfl
  exact ⟨rfl, hS.ext hE.ok hb, Turned.of_below hb, fun _ => ⟨Nat.le_trans h1.sz hb.size, t, h2.turned (Turned.of_below (X := fun _ => False) hb) (fun e => e) hB (fun _ _ e => e)⟩⟩
 by_cases hl : Den.lot t = -1
 ·refine (refleaf_any R.B R.C1 R.D1 W R.cn R.cF R.cX R.cA R.q1 E.bm R.vl R.va _ _ _ R.f R.zs t _ h2 h1.bF h1.bX h1.bA h1.lots hR.ck h1.ints hR.len hmp hB hl).mono ?_
  intro e W' h
  exact fin _ e W' h (right_leaf hR.ck hso hse hl)
 ·refine (refend_any R.B W R.cn R.cF R.cX R.cA E.bm t _ _ h2 hl).mono ?_
  intro e W' h
  exact fin _ e W' h (right_end hw hl)
end Go.Proofs.YteiaeaciaglmgaaGreat
namespace Go.Proofs.YteiaeaciaglmgaaGreat
open Go.RowKit
theorem right_part {f : Flow} {a : List Int} {n : Nat} {w : List (List Int)} {part : List Int} {p : Den} (hk : w.length < f.lots.length) (hs : settleS f w part = (w, part)) (hl : p.lot ≠ -1) :
  rightN f a (n + 1) w part p = ((decide (p.lot = (w.length : Nat)) && (decide (p.inn = (part.length : Nat)) && (decide (p.sender = 0) && decide ((p.kids.length : Int) = (lotAt f.lots w.length).ins.length - part.length)))) &&
   rkTo (fun i d => rightN f a n w (part ++ [i]) d) part p.kids (lotAt f.lots w.length).ins.length) := by
 rw [rightN, if_neg hl, hs]
 simp only [hk, decide_true, Bool.true_and, Bool.and_assoc]
theorem right_settle {f : Flow} {a : List Int} {n : Nat} {w : List (List Int)} {part : List Int} {p : Den} (h : settleS f (settleS f w part).1 (settleS f w part).2 = settleS f w part) : rightN f a n (settleS f w part).1 (settleS f w part).2 p = rightN f a n w part p := by
 cases n <;> (rw [rightN, rightN, h])
end Go.Proofs.YteiaeaciaglmgaaGreat
namespace Go.Proofs.YteiaeaciaglmgaaGreat
open Go.RowKit
theorem each_congr {g g' : Nat → Nat → Bool} {part : List Int} : ∀ {m : Nat}, (∀ i, i < m → hasB part (i : Int) = false → g (freeK part i) i = g' (freeK part i) i) → eachB g part m = eachB g' part m
 | 0, _ => rfl
 | m + 1, h => by
  simp only [eachB, each_congr (m := m) (fun i hi hh => h i (by omega) hh)]
  cases hh : hasB part (m : Int) with
  | true => rfl
  | false => rw [h m (by omega) hh]
theorem settle_twice {f : Flow} {w : List (List Int)} {part : List Int} (hc : checkE f = 0) (hso : StOk f w part) : settleS f (settleS f w part).1 (settleS f w part).2 = settleS f w part := by
 have h := (settle_ok (checkE_ok hc).2.2.2.2 (f.lots.length - w.length) w part (by have := hso.len; omega) hso).end'
 exact settle_settled (by
  rcases h with ⟨h1, _⟩ | h
  ·exact .inl h1
  ·exact .inr h)
theorem ref_part (R : EnvR) (hR : R.Ok) (E : EnvW) (hE : RefE R E) : PartC E (refCl R hR E) := by
 intro m w part W t cy ct ci cf cl hso hk hkn hp hS hat hX hvf heach
 obtain ⟨v, htk, hfr⟩ := hvf
 obtain ⟨h1, h2⟩ := hat hE.top
 have hse := settle_settled (f := E.f) (w := w) (part := part) (.inr ⟨hk, hkn, hp⟩)
 rw [hE.pf, hE.p1, hE.p2, hE.p3, hE.p4]
 have b1 := hR.b1
 have b2 := hR.b2
 have hsz := h1.sz
 have hB : R.B ≤ W.heap.size := Nat.le_trans hR.b2.1 h1.sz
 have hmp := hS.mp
 have hn : E.n = R.f.senders.toNat := by unfold EnvW.n; rw [hE.f]
 rw [hn] at hmp
 have hlo := checkE_ok hR.ck
 rw [hE.f] at hso hse hmp hk hkn hp
 have fin : ∀ (b : Bool) (e : Ending) (W' : World), (e = .returned (.bool b) ∧ Below W.heap.size W W') → rightN R.f R.zs (m + 1) w part t = b →
   e = .returned (.bool ((refCl R hR E).res (m + 1) t w part)) ∧ WalkS E w part W' ∧ Turned (fun q => q = E.bm ∨ (refCl R hR E).X t q) W W' ∧ (refCl R hR E).Dn (m + 1) t w part W' := by
  rintro b e W' ⟨rfl, hb⟩ rfl
  exact ⟨rfl, hS.ext hE.ok hb, Turned.of_below hb, fun _ => ⟨Nat.le_trans h1.sz hb.size, t, h2.turned (Turned.of_below (X := fun _ => False) hb) (fun e => e) hB (fun _ _ e => e)⟩⟩
 by_cases hl : Den.lot t = -1
 ·refine (refleaf_any R.B R.C1 R.D1 W R.cn R.cF R.cX R.cA R.q1 E.bm R.vl R.va _ _ _ R.f R.zs t _ h2 h1.bF h1.bX h1.bA h1.lots hR.ck h1.ints hR.len hmp hB hl).mono ?_
  intro e W' h
  exact fin _ e W' h (right_leaf hR.ck hso hse hl)
 ·have hrp := right_part (a := R.zs) (n := m) hk hse hl
  cases hfit : (decide (Den.lot t = (w.length : Nat)) && (decide (Den.inn t = (part.length : Nat)) && (decide (Den.sender t = 0) && decide (((Den.kids t).length : Int) = (lotAt R.f.lots w.length).ins.length - part.length))))
  ·refine (refmis_any R.B W R.cn R.cF R.cX R.cA E.bm w.length part.length R.vl R.f t _ h2 h1.bF h1.flow hB hR.ck hk (Nat.le_of_lt hp) hl hfit).mono ?_
   intro e W' h
   exact fin _ e W' h (by rw [hrp, hfit, Bool.false_and])
  ·rw [hfit, Bool.true_and] at hrp
   have hkl : (Den.kids t).length = freeK part (lotAt R.f.lots w.length).ins.length := by
    simp only [Bool.and_eq_true, decide_eq_true_eq] at hfit
    have h3 := free_all hso.nodup (lotAt R.f.lots w.length).ins.length
    rw [List.filter_eq_self.2 (fun x hx => decide_eq_true (hso.low x hx))] at h3
    omega
   refine refgo_any R.B W R.cn R.cF R.cX R.cA E.bm w.length part.length R.vl R.f t _ _ _ _ _ _ _ _ (fun W' => WalkS E w part W' ∧ Turned (fun q => q = E.bm ∨ (refCl R hR E).X t q) W W' ∧ (refCl R hR E).Dn (m + 1) t w part W') h2 h1.bF h1.flow hB hR.ck hk (Nat.le_of_lt hp) hl ?_ hfit
   intro W2 hb hd2
   have hcn : W.heap.size ≠ R.cn := by omega
   have h22 : DenC R.B W2 R.cn t := h2.turned (Turned.of_below (X := fun _ => False) hb) (fun e => e) hB (fun _ _ e => e)
   have hbm := hE.top
   have hbmC := hE.ok.x3.2
   have hbC := hS.sz
   have keepA : ∀ (W' W'' : World) (d : Den) (q : Nat), RefS R W' → DenC R.B W' q d → q ≠ E.bm → Turned (fun q => q = E.bm) W' W'' → DenC R.B W'' q d := fun W' W'' d q a1 a2 a3 a4 => a2.turned a4 a3 (by have := a1.sz; omega) (fun k hk e => by omega)
   refine (heach W2 35 (.pointer (some ⟨W.heap.size, 0, none⟩)) (.pointer (some ⟨R.cn, 0, none⟩)) (fun _ W' => RefS R W' ∧ DenC R.B W' W.heap.size t ∧ ∃ d, DenC R.B W' R.cn d) (fun j W' => RefS R W' ∧ DenC R.B W' W.heap.size t ∧ DenC R.B W' R.cn (denAt (Den.kids t) j)) (fun j => denAt (Den.kids t) j) (fun W' => R.top ≤ W'.heap.size ∧ ∃ d, DenC R.B W' R.cn d) (.inr rfl) (hS.ext hE.ok hb) hb.size ⟨W, rfl, Turned.of_below hb, v, htk, hfr⟩
    ⟨h1.turned hR (Turned.of_below (X := fun _ => False) hb) (fun _ e => e.elim), hd2, t, h22⟩
    (fun i W' W'' a ht => ⟨a.1.turned hR ht (fun q e => .inr (by omega)), keepA _ _ _ _ a.1 a.2.1 (by omega) ht, by obtain ⟨d, a3⟩ := a.2.2; exact ⟨d, keepA _ _ _ _ a.1 a3 (by omega) ht⟩⟩)
    (fun i W' W'' a ht => ⟨a.1.turned hR ht (fun q e => .inr (by omega)), keepA _ _ _ _ a.1 a.2.1 (by omega) ht, keepA _ _ _ _ a.1 a.2.2 (by omega) ht⟩)
    (fun W' W'' a ht => ⟨Nat.le_trans a.1 ht.size, by obtain ⟨d, a3⟩ := a.2; exact ⟨d, a3.turned ht (by omega) (by omega) (fun k hk e => by omega)⟩⟩)
    ?_ (fun i W' a _ => ⟨a.1, a.2.2⟩) (fun i q e => .inl e) ?_).mono ?_
   ·intro i hi W3 a hw3 hs3
    obtain ⟨d, y0, y1, y2, y3, a3, _⟩ := a.2.2
    refine (refready_any R.B W3 W.heap.size R.cn t i a.2.1 ⟨y0, y1, y2, y3, a3⟩ (by rw [hE.f] at hi; omega) hcn b1.1).mono ?_
    rintro e W4 ⟨he, g1, g2⟩
    exact ⟨he, ⟨a.1.turned hR g2 (fun q e => .inl e), a.2.1.turned g2 hcn (by have := a.1.sz; omega) (fun k hk e => by omega), g1⟩, g2⟩
   ·intro j i W3 W4 _ _ _ a ht hdn
    have hq : ∀ q, (q = E.bm ∨ q = R.cn) → q = R.cn ∨ R.top ≤ q := fun q e => by rcases e with e | e; exact .inr (by omega); exact .inl e
    obtain ⟨g2, d, g3⟩ := hdn hbm
    refine ⟨fun _ => ?_, fun _ => ⟨g2, d, g3⟩⟩
    exact ⟨a.1.turned hR ht hq, a.2.1.turned ht (fun e => by have e : W.heap.size = E.bm ∨ W.heap.size = R.cn := e; omega) (by have := a.1.sz; omega) (fun k hk e => by have e : k = E.bm ∨ k = R.cn := e; omega), d, g3⟩
   ·rintro e W' ⟨he, g1, g2, g3⟩
    have hgg : rightN R.f R.zs (m + 1) w part t = eachB (fun (j i : Nat) => (refCl R hR E).res m (denAt (Den.kids t) j) (settleS E.f w (part ++ [(i : Int)])).1 (settleS E.f w (part ++ [(i : Int)])).2) part (lotAt E.f.lots w.length).ins.length := by
     rw [hrp, ← each_rk, hE.f]
     exact each_congr (fun i hi hh => (right_settle (settle_twice hR.ck (hso.more hkn hp hi hh))).symm)
    rw [← hgg] at he
    refine ⟨he, g1, (Turned.of_below hb).transE g2 (fun q hq e => ?_), fun _ => ?_⟩
    ·rcases e with e | e | e
     ·exact .inl e
     ·exact .inr e
     ·omega
    ·cases hb2 : eachB (fun (j i : Nat) => (refCl R hR E).res m (denAt (Den.kids t) j) (settleS E.f w (part ++ [(i : Int)])).1 (settleS E.f w (part ++ [(i : Int)])).2) part (lotAt E.f.lots w.length).ins.length with
     | false => exact g3.2 hb2
     | true =>
      obtain ⟨k1, _, k3⟩ := g3.1 hb2
      exact ⟨k1.sz, k3⟩
end Go.Proofs.YteiaeaciaglmgaaGreat
namespace Go.Proofs.YteiaeaciaglmgaaGreat
open Go.RowKit
/-- walk, called by Refutes -/
theorem ref_walk (R : EnvR) (hR : R.Ok) (w : World) (p : Den) (h : RefS R w) (hd : DenC R.B w R.cn p) (htop : R.top = w.heap.size) (hf : IsFlow R.B w (.int .i64 R.f.senders) R.vl R.f) :
  Calls Tryz.prog 29 #[.agg #[.int .i64 R.f.senders, R.vl], .func (.func 34) #[] #[.pointer (some ⟨R.cn, 0, none⟩), .pointer (some ⟨R.cF, 0, none⟩), .pointer (some ⟨R.cX, 0, none⟩), .pointer (some ⟨R.cA, 0, none⟩)]] w fun e W' =>
   e = .returned (.bool (rightN R.f R.zs (undM R.f R.f.lots.length) [] [] p)) ∧ Turned (fun q => q = R.cn) w W' := by
 have b1 := hR.b1
 have b2 := hR.b2
 refine walk_any R.B w _ R.vl R.f hf (by omega) hR.ck _ _ _ _ _ (.inr rfl) (fun E => refCl R hR E) (fun E => p) _ (fun W' => Turned (fun q => q = R.cn) w W') ?_
 intro E W hE hEB hEf hEvl hEpf h1 h2 h3 h4 hcp hb
 have hRE : RefE R E := ⟨hE, hEB, hEf, hEpf, h1, h2, h3, h4, by have := hE.o2; have := hE.o3; have := hE.x3; omega⟩
 have hs : RefS R W := h.turned hR (Turned.of_below (X := fun _ => False) hb) (fun _ e => e.elim)
 have hbm : w.heap.size ≤ E.bm := by have := hRE.top; omega
 refine ⟨ref_end R hR E hRE, ref_part R hR E hRE, fun t q e => e, fun _ => ⟨hs, hd.turned (Turned.of_below (X := fun _ => False) hb) (fun e => e) (by omega) (fun _ _ e => e)⟩, fun q e => ?_, ?_, fun W' ht _ => ?_⟩
 ·have e : q = R.cn := e
  omega
 ·exact right_settle (settle_twice hR.ck (StOk.start R.f))
 ·exact (Turned.of_below hb).transE ht (fun q hq e => by
   rcases e with e | e
   ·omega
   ·exact e)
set_option maxHeartbeats 8000000 in
set_option maxRecDepth 100000 in
/-- explain.Refutes -/
theorem erefutes_any (B : Nat) (w : World) (vs vl va : Value) (cd : List Value) (f : Flow) (zs : List Int) (p : Den) (hf : IsFlow B w vs vl f) (hz : IsInts B w va zs) (hd : IsDen B w cd p) (hB : B ≤ w.heap.size) :
  Calls Tryz.prog 12 #[.agg #[vs, vl], va, .agg cd.toArray] w fun e w' => e = .returned (.tuple #[.bool (refutesB f zs p), .int .i64 (errX f zs)]) ∧ Below w.heap.size w w' := by
 have HF := Lib.hid hf
 have HZ := Lib.hid hz
 have HD := Lib.hid hd
 have hmf := @run_makeFunc_any Tryz.prog
 obtain ⟨rfl, ⟨hs1, hs2⟩, hl'⟩ := hf
 obtain ⟨b, off, cap, ⟨a, rfl, hcap, hmax, ha⟩, hlen, hc⟩ := hl'
 obtain ⟨az, cz, rfl⟩ := hz.form
 obtain ⟨ak, ck, rfl, _⟩ := hd.form
 obtain ⟨l, hl⟩ : ∃ x, p.lot = x := ⟨_, rfl⟩
 obtain ⟨i, hi⟩ : ∃ x, p.inn = x := ⟨_, rfl⟩
 obtain ⟨s, hs⟩ : ∃ x, p.sender = x := ⟨_, rfl⟩
 obtain ⟨nk, hnk⟩ : ∃ x, p.kids.length = x := ⟨_, rfl⟩
 rw [hl, hi, hs, hnk] at HD ⊢
 obtain ⟨nz, hnz⟩ : ∃ x, zs.length = x := ⟨_, rfl⟩
 rw [hnz] at HZ ⊢
 have HNZ := Lib.hid hnz
 obtain ⟨ER, hER⟩ : ∃ x, errX f zs = x := ⟨_, rfl⟩
 have HER := Lib.hid hER
 obtain ⟨RB, hRB⟩ : ∃ x, refutesB f zs p = x := ⟨_, rfl⟩
 have HRB := Lib.hid hRB
 rw [hER, hRB]
 clear hz ha hc hd hl hi hs hnk hER hRB hnz
 go_enter Tryz.func12, Tryz.ntmps12
 go_upto_region 1 with fail
 refine wp_name (fun W1 hW1 => ?_)
 have HX1 : Hid (Box W1 w.heap.size #[.int .i64 f.senders, .slice a f.lots.length cap]) := Lib.hid (by rw [hW1]; exact ((Box.new w #[.int .i64 f.senders, .slice a f.lots.length cap] 24).alloc _).alloc _)
 have HA1 : Hid (Cell1 W1 (w.heap.size + 1) (.slice az nz cz)) := Lib.hid (by
  rw [hW1]
  have h := Cell1.new (w.alloc (.cells #[.int .i64 f.senders, .slice a f.lots.length cap] 24)) (.slice az nz cz) 25
  rw [World.size_alloc] at h
  exact h.alloc _)
 have HR1 : Hid (CellsN W1 (w.heap.size + 1 + 1) #[.int .i64 l, .int .i64 i, .slice ak nk ck, .int .i64 s]) := Lib.hid (by
  rw [hW1]
  have h := CellsN.new ((w.alloc (.cells #[.int .i64 f.senders, .slice a f.lots.length cap] 24)).alloc (.cells #[.slice az nz cz] 25)) #[.int .i64 l, .int .i64 i, .slice ak nk ck, .int .i64 s] 30
  simp only [World.size_alloc] at h
  exact h)
 have HW1 : Hid (Below w.heap.size w W1) := Lib.hid (by rw [hW1]; exact ((box_below' w _).trans ((box_below' _ _).mono (by simp))).trans ((box_below' _ _).mono (by simp; omega)))
 clear hW1
 have r1 := HX1.out.2
 have r2 := HA1.out.cell
 have HCH := Lib.hid (echeck_any B W1 _ _ _ f zs (HF.out.below HW1.out hB) (HZ.out.below HW1.out hB) (Nat.le_trans hB HW1.out.size))
 rw [HER.out] at HCH
 go_wp2_with fail
 refine HCH.out.mono ?_
 rintro e W2 ⟨rfl, hb2⟩
 have HB2 := Lib.hid hb2
 clear hb2
 have HX2 := Lib.hid (HX1.out.ext HB2.out)
 have HA2 := Lib.hid (HA1.out.ext HB2.out)
 have HR2 := Lib.hid (HR1.out.ext HB2.out)
 have HW2 : Hid (Below w.heap.size w W2) := Lib.hid (HW1.out.trans (HB2.out.mono HW1.out.size))
 clear r1 r2
 have x2 := HX2.out.2
 by_cases he : ER = 0
 ·have he1 : (ER != 0) = false := by simpa using he
  have hck0 : errX f zs = 0 := by rw [HER.out]; exact he
  obtain ⟨hc, hwy, hal⟩ := errX_ok hck0
  have HC := Lib.hid hc
  have HAL := Lib.hid hal
  have HNL := Lib.hid (newLots_any B W2 _ _ f (HF.out.below HW2.out hB) (Nat.le_trans hB HW2.out.size) hc)
  have HEZ := Lib.hid he
  have HRR : Hid (RB = rightN f zs (undM f f.lots.length) [] [] p) := Lib.hid (by rw [← HRB.out]; unfold refutesB; rw [decide_eq_true hck0, Bool.true_and])
  clear he hal hc hwy hck0
  go_upto_region 5 with (go_at_call 24; refine HNL.out.mono ?_; rintro e W3 ⟨q0, rfl, hlots, hb3⟩; have HLO := Lib.hid hlots; have HB23 := Lib.hid hb3; clear hlots hb3)
  have HR3 := Lib.hid (HR2.out.ext HB23.out)
  refine wp_name (fun W4 hW4 => ?_)
  have HB34 : Hid (Below W3.heap.size W3 W4) := Lib.hid (by rw [hW4]; exact box_below' W3 _)
  have HCX : Hid (Cell1 W4 W3.heap.size (.pointer (some ⟨q0, 0, none⟩))) := Lib.hid (by rw [hW4]; exact Cell1.new W3 _ _)
  have HZ4 : Hid (W4.heap.size = W3.heap.size + 1) := Lib.hid (by rw [hW4]; simp)
  clear hW4
  have n := HR3.out.ext HB34.out
  have n0 := n.cell 0
  have n1 := n.cell 1
  have n2 := n.cell 2
  have n3 := n.cell 3
  simp at n0 n1 n2 n3
  clear n x2
  go_upto_region 6 with fail
  refine wp_name (fun W5 hW5 => ?_)
  have HB45 : Hid (Below W4.heap.size W4 W5) := Lib.hid (by rw [hW5]; exact box_below' W4 _)
  have HCN : Hid (CellsN W5 W4.heap.size #[.int .i64 l, .int .i64 i, .slice ak nk ck, .int .i64 s]) := Lib.hid (by rw [hW5]; exact CellsN.new W4 _ _)
  have HZ5 : Hid (W5.heap.size = W4.heap.size + 1) := Lib.hid (by rw [hW5]; simp)
  clear hW5 n0 n1 n2 n3
  have HB35 : Hid (Below W3.heap.size W3 W5) := Lib.hid (HB34.out.trans (HB45.out.mono HB34.out.size))
  have HB25 : Hid (Below W2.heap.size W2 W5) := Lib.hid (HB23.out.trans (HB35.out.mono HB23.out.size))
  have HW5 : Hid (Below w.heap.size w W5) := Lib.hid (HW2.out.trans (HB25.out.mono HW2.out.size))
  have HX5 := Lib.hid (HX2.out.ext HB25.out)
  have x5 := HX5.out.2
  have hz4 := HZ4.out
  have hz5 := HZ5.out
  have hs23 := HB23.out.size
  have hltA := HA2.out.lt
  have HWK := Lib.hid (ref_walk ⟨B, W2.heap.size, W3.heap.size, q0, W4.heap.size, w.heap.size, W3.heap.size, w.heap.size + 1, W5.heap.size, .slice a f.lots.length cap, .slice az nz cz, f, zs⟩
   ⟨⟨by show B ≤ W4.heap.size; omega, by show W4.heap.size < W5.heap.size; omega⟩, ⟨by show B ≤ W5.heap.size; omega, by show W3.heap.size ≤ W5.heap.size; omega⟩, ⟨by show w.heap.size < W5.heap.size; omega, by show W3.heap.size < W5.heap.size; omega, by show w.heap.size + 1 < W5.heap.size; omega⟩,
    ⟨by show W4.heap.size ≠ w.heap.size; omega, by show W4.heap.size ≠ W3.heap.size; omega, by show W4.heap.size ≠ w.heap.size + 1; omega⟩, .inr (by show W3.heap.size ≤ W4.heap.size; omega), HC.out, HAL.out⟩
   W5 p ⟨HX5.out, HCX.out.ext HB45.out, HA2.out.ext HB25.out, HLO.out.ext HB35.out, (HF.out.below HW5.out hB).2.2, HZ.out.below HW5.out hB, Nat.le_refl _⟩
   ⟨_, _, _, _, HCN.out, HD.out.below HW5.out hB⟩ rfl (HF.out.below HW5.out hB))
  have HWK2 : Hid (Calls Tryz.prog 29 #[.agg #[.int .i64 f.senders, .slice a f.lots.length cap], .func (.func 34) #[] #[.pointer (some ⟨W4.heap.size, 0, none⟩), .pointer (some ⟨w.heap.size, 0, none⟩), .pointer (some ⟨W3.heap.size, 0, none⟩), .pointer (some ⟨w.heap.size + 1, 0, none⟩)]] W5 fun e W' =>
   e = .returned (.bool RB) ∧ Turned (fun q => q = W4.heap.size) W5 W') := Lib.hid (by rw [HRR.out]; exact HWK.out)
  have HNU : Hid (w.heap.size ≤ W4.heap.size) := Lib.hid (by omega)
  clear hz4 hz5 hs23 hltA HWK
  go_wp2_with (go_at_call 29; refine HWK2.out.mono ?_; rintro e W6 ⟨rfl, ht6⟩; have HT6 := Lib.hid ht6; clear ht6)
  go_ret2
  exact ⟨by rw [HEZ.out]; rfl, HW5.out.trans (HT6.out.below HW5.out.size (fun k hk e => by have := HNU.out; omega))⟩
 ·have he1 : (ER != 0) = true := by simpa using he
  have HEM : Hid (RB = false) := Lib.hid (by rw [← HRB.out]; unfold refutesB; rw [HER.out, decide_eq_false he, Bool.false_and])
  clear he
  go_wp2
  go_ret2
  exact ⟨by rw [HEM.out]; rfl, HW2.out⟩
end Go.Proofs.YteiaeaciaglmgaaGreat
namespace Go.Proofs.YteiaeaciaglmgaaGreat
open Go.RowKit
/-- the denials of the free places below i -/
def kidL (g : Int → Option Den) (part : List Int) : Nat → List Den
 | 0 => []
 | i + 1 => if hasB part (i : Int) then kidL g part i else kidL g part i ++ [(g (i : Int)).getD noD]
theorem kidL_len (g : Int → Option Den) (part : List Int) : ∀ n, (kidL g part n).length = freeK part n
 | 0 => rfl
 | n + 1 => by
  simp only [kidL, freeK]
  split
  ·exact kidL_len g part n
  ·simp [kidL_len g part n]
theorem denAt_pre {l : List Den} {d : Den} {j : Nat} (h : j < l.length) : denAt (l ++ [d]) j = denAt l j := by
 unfold denAt
 rw [List.getD_eq_getElem?_getD, List.getD_eq_getElem?_getD, List.getElem?_append_left h]
theorem denAt_snoc {l : List Den} {d : Den} : denAt (l ++ [d]) l.length = d := by
 unfold denAt
 rw [List.getD_eq_getElem?_getD, List.getElem?_append_right (Nat.le_refl _)]
 simp
theorem kidL_at {g : Int → Option Den} {part : List Int} {i : Nat} (h : hasB part (i : Int) = false) : ∀ {n : Nat}, i < n → denAt (kidL g part n) (freeK part i) = (g (i : Int)).getD noD
 | 0, hi => by omega
 | n + 1, hi => by
  by_cases e : i = n
  ·subst e
   simp only [kidL]
   rw [if_neg (by rw [h]; simp), ← kidL_len g part i, denAt_snoc]
  ·have ih := kidL_at (g := g) h (n := n) (by omega)
   have hlt := free_lt (N := n) (by omega) h
   simp only [kidL]
   split
   ·exact ih
   ·rw [denAt_pre (by rw [kidL_len]; exact hlt)]
    exact ih
theorem kids_each (g : Int → Option Den) (part : List Int) : ∀ n, kidsTo g part n = if eachB (fun (_ i : Nat) => (g (i : Int)).isSome) part n then some (kidL g part n) else none
 | 0 => rfl
 | n + 1 => by
  have e1 : eachB (fun (_ i : Nat) => (g (i : Int)).isSome) part (n + 1) = (eachB (fun (_ i : Nat) => (g (i : Int)).isSome) part n && (hasB part (n : Int) || (g (n : Int)).isSome)) := rfl
  have e2 : kidsTo g part (n + 1) = if hasB part (n : Int) then kidsTo g part n else match kidsTo g part n, g (n : Int) with
   | some l, some d => some (l ++ [d])
   | _, _ => none := rfl
  have e3 : kidL g part (n + 1) = if hasB part (n : Int) then kidL g part n else kidL g part n ++ [(g (n : Int)).getD noD] := rfl
  rw [e1, e2, e3, kids_each g part n]
  cases hasB part (n : Int) <;> cases eachB (fun (_ i : Nat) => (g (i : Int)).isSome) part n <;> cases g (n : Int) <;> rfl
theorem deny_stuck {f : Flow} {a : List Int} {n : Nat} {w : List (List Int)} {part : List Int} (hs : settleS f w part = (w, part)) (h : 0 ≤ stuckI f a w part) : denyN f a n w part = some (leafD (stuckI f a w part)) := by
 cases n <;> (rw [denyN, hs]; exact if_pos h)
theorem deny_end {f : Flow} {a : List Int} {n : Nat} {w : List (List Int)} {part : List Int} (hs : settleS f w part = (w, part)) (hw : w.length = f.lots.length) (h : ¬ 0 ≤ stuckI f a w part) : denyN f a n w part = none := by
 cases n
 ·rw [denyN, hs]; exact if_neg h
 ·rw [denyN, hs]
  simp only
  rw [if_neg h, if_pos hw]
theorem deny_part {f : Flow} {a : List Int} {n : Nat} {w : List (List Int)} {part : List Int} (hs : settleS f w part = (w, part)) (hk : w.length < f.lots.length) (h : ¬ 0 ≤ stuckI f a w part) :
  denyN f a (n + 1) w part = if eachB (fun (_ i : Nat) => (denyN f a n w (part ++ [(i : Int)])).isSome) part (lotAt f.lots w.length).ins.length then some (.mk (w.length : Nat) (part.length : Nat) (kidL (fun i => denyN f a n w (part ++ [i])) part (lotAt f.lots w.length).ins.length) 0) else none := by
 rw [denyN, hs]
 simp only
 rw [if_neg h, if_neg (by omega), kids_each]
 cases eachB (fun (_ i : Nat) => (denyN f a n w (part ++ [(i : Int)])).isSome) part (lotAt f.lots w.length).ins.length <;> rfl
theorem deny_settle {f : Flow} {a : List Int} {n : Nat} {w : List (List Int)} {part : List Int} (h : settleS f (settleS f w part).1 (settleS f w part).2 = settleS f w part) : denyN f a n (settleS f w part).1 (settleS f w part).2 = denyN f a n w part := by
 cases n <;> rw [denyN, denyN, h]
/-- a block of cells with place for four from o on -/
def Slot (W : World) (b o : Nat) : Prop := ∃ c, CellsN W b c ∧ o + 4 ≤ c.size
theorem Slot.lt {W : World} {b o : Nat} (h : Slot W b o) : b < W.heap.size := by obtain ⟨c, h, _⟩ := h; exact h.ltN
theorem Slot.free {W : World} {b o : Nat} (h : Slot W b o) (k : Nat) : W.frozen? ⟨b, k, none⟩ = false := by obtain ⟨c, h, _⟩ := h; exact h.free k
theorem Slot.turned {X : Nat → Prop} {W W' : World} {b o : Nat} (h : Slot W b o) (ht : Turned X W W') (hx : ¬ X b) : Slot W' b o := by obtain ⟨c, h, h2⟩ := h; exact ⟨c, h.turned ht hx, h2⟩
theorem Slot.cells {W : World} {b o : Nat} (h : Slot W b o) : ∃ z0 z1 z2 z3, W.cell? ⟨b, o, none⟩ = some z0 ∧ W.cell? ⟨b, o + 1, none⟩ = some z1 ∧ W.cell? ⟨b, o + 2, none⟩ = some z2 ∧ W.cell? ⟨b, o + 3, none⟩ = some z3 := by
 obtain ⟨c, h, h2⟩ := h
 obtain ⟨z0, h0⟩ := h.lt' o (by omega)
 obtain ⟨z1, h1⟩ := h.lt' (o + 1) (by omega)
 obtain ⟨z2, h2⟩ := h.lt' (o + 2) (by omega)
 obtain ⟨z3, h3⟩ := h.lt' (o + 3) (by omega)
 exact ⟨z0, z1, z2, z3, h0, h1, h2, h3⟩
/-- blocks X and the slot (b, o) alone have been written -/
structure SlotT (X : Nat → Prop) (b o : Nat) (W W' : World) : Prop where
 tu : Turned (fun q => X q ∨ q = b) W W'
 ot : ∀ k, k < o ∨ o + 4 ≤ k → W'.cell? ⟨b, k, none⟩ = W.cell? ⟨b, k, none⟩
 sl : ∀ o', Slot W b o' → Slot W' b o'
theorem SlotT.refl (X : Nat → Prop) (b o : Nat) (W : World) : SlotT X b o W W := ⟨Turned.refl _ _, fun _ _ => rfl, fun _ h => h⟩
theorem SlotT.trans {X : Nat → Prop} {b o : Nat} {W W' W'' : World} (h : SlotT X b o W W') (k : SlotT X b o W' W'') : SlotT X b o W W'' := ⟨h.tu.trans k.tu, fun q hq => (k.ot q hq).trans (h.ot q hq), fun o' h' => k.sl o' (h.sl o' h')⟩
theorem SlotT.of {X Y : Nat → Prop} {b o : Nat} {W W' : World} (h : Turned Y W W') (hb : b < W.heap.size) (hY : ∀ q, q < W.heap.size → Y q → X q ∧ q ≠ b) : SlotT X b o W W' :=
 ⟨h.mono (fun q hq e => .inl (hY q hq e).1), fun k _ => h.cell (p := ⟨b, k, none⟩) hb (fun e => (hY b hb e).2 rfl), fun o' h' => h'.turned h (fun e => (hY b hb e).2 rfl)⟩
/-- the slot holds these four -/
structure SlotC (b o : Nat) (c0 c1 c2 c3 : Value) (W : World) : Prop where
 c0 : W.cell? ⟨b, o, none⟩ = some c0
 c1 : W.cell? ⟨b, o + 1, none⟩ = some c1
 c2 : W.cell? ⟨b, o + 2, none⟩ = some c2
 c3 : W.cell? ⟨b, o + 3, none⟩ = some c3
theorem SlotC.turned {X : Nat → Prop} {b o : Nat} {c0 c1 c2 c3 : Value} {W W' : World} (h : SlotC b o c0 c1 c2 c3 W) (ht : Turned X W W') (hb : b < W.heap.size) (hx : ¬ X b) : SlotC b o c0 c1 c2 c3 W' :=
 ⟨(ht.cell (p := ⟨b, o, none⟩) hb hx).trans h.c0, (ht.cell (p := ⟨b, o + 1, none⟩) hb hx).trans h.c1, (ht.cell (p := ⟨b, o + 2, none⟩) hb hx).trans h.c2, (ht.cell (p := ⟨b, o + 3, none⟩) hb hx).trans h.c3⟩
theorem SlotC.other {X : Nat → Prop} {b o p : Nat} {c0 c1 c2 c3 : Value} {W W' : World} (h : SlotC b o c0 c1 c2 c3 W) (ht : SlotT X b p W W') (hp : o + 4 ≤ p) : SlotC b o c0 c1 c2 c3 W' :=
 ⟨(ht.ot o (by omega)).trans h.c0, (ht.ot (o + 1) (by omega)).trans h.c1, (ht.ot (o + 2) (by omega)).trans h.c2, (ht.ot (o + 3) (by omega)).trans h.c3⟩
theorem SlotC.list {b o : Nat} {c0 c1 c2 c3 : Value} {W : World} (h : SlotC b o c0 c1 c2 c3 W) : ∀ q u, [c0, c1, c2, c3][q]? = some u → W.cell? ⟨b, o + q, none⟩ = some u := fun q u hq => by
 match q, hq with
 | 0, hq => simp at hq; subst hq; exact h.c0
 | 1, hq => simp at hq; subst hq; exact h.c1
 | 2, hq => simp at hq; subst hq; exact h.c2
 | 3, hq => simp at hq; subst hq; exact h.c3
 | q + 4, hq => simp at hq
theorem slot_set {b o : Nat} {W W1 : World} (h : Slot W b o) (hb : Below W.heap.size W W1) (c0 c1 c2 c3 : Value) :
  SlotT (fun _ => False) b o W ((((W1.setCell ⟨b, o, none⟩ c0).setCell ⟨b, o + 1, none⟩ c1).setCell ⟨b, o + 2, none⟩ c2).setCell ⟨b, o + 3, none⟩ c3) ∧ SlotC b o c0 c1 c2 c3 ((((W1.setCell ⟨b, o, none⟩ c0).setCell ⟨b, o + 1, none⟩ c1).setCell ⟨b, o + 2, none⟩ c2).setCell ⟨b, o + 3, none⟩ c3) := by
 have hlt := h.lt
 have h1 := h.turned (Turned.of_below (X := fun _ => False) hb) (fun e => e)
 have hg := fun (w : World) k v => Turned.of_grown (X := fun q => False ∨ q = b) (grown_setCell w ⟨b, k, none⟩ v) (fun q e => .inr (by simpa using e.symm))
 obtain ⟨c, hc, hs⟩ := h1
 have hn := (((hc.set o c0).set (o + 1) c1).set (o + 2) c2).set (o + 3) c3
 refine ⟨⟨(Turned.of_below hb).trans ((((hg _ _ _).trans (hg _ _ _)).trans (hg _ _ _)).trans (hg _ _ _)), fun k hk => ?_, fun o' h' => ?_⟩, ⟨?_, ?_, ?_, ?_⟩⟩
 ·rw [hn.cell, ← hb.cell (p := ⟨b, k, none⟩) hlt, hc.cell]
  simp only [Array.getElem?_setIfInBounds]
  rw [if_neg (by omega), if_neg (by omega), if_neg (by omega), if_neg (by omega)]
 ·obtain ⟨c', g1, g2⟩ := h'.turned (Turned.of_below (X := fun _ => False) hb) (fun e => e)
  obtain ⟨t, g3⟩ := g1
  obtain ⟨t', g4⟩ := hc
  rw [g3] at g4
  cases g4
  exact ⟨_, hn, by simpa using g2⟩
 ·rw [hn.cell]
  simp only [Array.getElem?_setIfInBounds, Array.size_setIfInBounds]
  rw [if_neg (by omega), if_neg (by omega), if_neg (by omega), if_pos trivial, if_pos (by omega)]
 ·rw [hn.cell]
  simp only [Array.getElem?_setIfInBounds, Array.size_setIfInBounds]
  rw [if_neg (by omega), if_neg (by omega), if_pos trivial, if_pos (by omega)]
 ·rw [hn.cell]
  simp only [Array.getElem?_setIfInBounds, Array.size_setIfInBounds]
  rw [if_neg (by omega), if_pos trivial, if_pos (by omega)]
 ·rw [hn.cell]
  simp only [Array.getElem?_setIfInBounds, Array.size_setIfInBounds]
  rw [if_pos trivial, if_pos (by omega)]
theorem made_size (n : Nat) : (madeCells zeroD (n * 4)).size = n * 4 := size_madeCells _ _
theorem made_slot {W : World} {b n j : Nat} (h : CellsN W b (madeCells zeroD (n * 4))) (hj : j < n) : Slot W b (j * 4) := ⟨_, h, by rw [made_size]; omega⟩
theorem run_make_den (n : Nat) (hn : n ≤ 100000) (w : World) : (Instr.makeSlice 28 (.int .i64 (n : Int)) (.int .i64 (n : Int))).run Tryz.prog w = .ok (.slice (some ⟨w.heap.size, 0, none⟩) n n) (w.alloc (.cells (madeCells zeroD (n * 4)) 30)) := by
 obtain ⟨i0, hi, hz0⟩ := Option.map_eq_some_iff.1 den_inf
 simp only [Prod.mk.injEq] at hz0
 obtain ⟨hz0, hz1, hz2⟩ := hz0
 have hr := run_make (P := Tryz.prog) w 28 30 i0 (.agg #[.int .i64 0, .int .i64 0, .slice none 0 0, .int .i64 0]) Tryz.underlying28 hi hz0 .i64 .i64 n n (by omega) (by omega) (by rw [hz2]; omega) (by omega)
 simp only [Int.toNat_natCast, hz1] at hr
 exact hr
end Go.Proofs.YteiaeaciaglmgaaGreat
namespace Go.Proofs.YteiaeaciaglmgaaGreat
open Go.RowKit
set_option maxHeartbeats 8000000 in
set_option maxRecDepth 100000 in
/-- some sender is stuck -/
theorem denleaf_any (C1 D1 B : Nat) (W : World) (cX cA ct cF q1 bm b o : Nat) (vl va : Value) (f : Flow) (zs : List Int) (P : Nat → Int) (hX : Cell1 W cX (.pointer (some ⟨q1, 0, none⟩))) (hA : Cell1 W cA va) (ht : Cell1 W ct (.pointer (some ⟨b, o, none⟩))) (hs : Slot W b o) (hlo : LotsAt C1 D1 W q1 vl f) (hc : checkE f = 0)
  (hz : IsInts B W va zs) (hzl : (zs.length : Int) = f.senders) (hof : OfMap W bm f.senders.toNat P) (hB : B ≤ W.heap.size) (lotV inV eachV : Value) (hk : 0 ≤ leastN (fun i => !leadE f (P i) (nth zs i)) f.senders.toNat) :
  Calls Tryz.prog 30 #[.map (some bm), lotV, inV, eachV, .pointer (some ⟨cX, 0, none⟩), .pointer (some ⟨cA, 0, none⟩), .pointer (some ⟨ct, 0, none⟩), .pointer (some ⟨cF, 0, none⟩)] W fun e W' =>
   e = .returned (.bool true) ∧ SlotT (fun _ => False) b o W W' ∧ SlotC b o (.int .i64 (-1)) (.int .i64 0) (.slice none 0 0) (.int .i64 (leastN (fun i => !leadE f (P i) (nth zs i)) f.senders.toNat)) W' := by
 obtain ⟨bz, oz, cz, ⟨az, rfl, hz1, hz2, hz3⟩, hz4, hz5, hzc⟩ := id hz
 have hzn : zs.length = f.senders.toNat := by omega
 have hbd := leastN_bd (fun i => !leadE f (P i) (nth zs i)) f.senders.toNat
 obtain ⟨_, h64, _⟩ := checkE_ok hc
 have HST := Lib.hid (stuck_any C1 D1 B W q1 bm f.senders.toNat vl _ f zs P hlo hc hof hz hzn hB)
 obtain ⟨K, hK⟩ : ∃ x, leastN (fun i => !leadE f (P i) (nth zs i)) f.senders.toNat = x := ⟨_, rfl⟩
 rw [hK] at HST hbd hk ⊢
 have m1 := hX.cell
 have m2 := hA.cell
 have HT := Lib.hid ht
 have HSL := Lib.hid hs
 clear hK hX hA ht hs hlo hz hzl hof hz3 hzc hz5 hzn
 have hk1 : decide (0 ≤ K) = true := decide_eq_true hk
 go_enter Tryz.func30, Tryz.ntmps30
 go_upto_region 2 with (go_at_call 31; refine HST.out.mono ?_; rintro e W1 ⟨rfl, hb1⟩; have HB1 := Lib.hid hb1; clear hb1)
 have hs1 := HSL.out.turned (Turned.of_below (X := fun _ => False) HB1.out) (fun e => e)
 obtain ⟨z0, z1, z2, z3, n0, n1, n2, n3⟩ := hs1.cells
 have f0 := hs1.free o
 have f1 := hs1.free (o + 1)
 have f2 := hs1.free (o + 2)
 have f3 := hs1.free (o + 3)
 have m3 := (HT.out.ext HB1.out).cell
 clear hs1
 go_wp2
 go_ret
 obtain ⟨g1, g2⟩ := slot_set HSL.out HB1.out (.int .i64 (-1)) (.int .i64 0) (.slice none 0 0) (.int .i64 K)
 exact ⟨rfl, g1, g2⟩
set_option maxHeartbeats 8000000 in
set_option maxRecDepth 100000 in
/-- nobody is stuck, and all lots are done -/
theorem denend_any (C1 D1 B : Nat) (W : World) (cX cA ct cF q1 bm b o : Nat) (vl va : Value) (f : Flow) (zs : List Int) (P : Nat → Int) (hX : Cell1 W cX (.pointer (some ⟨q1, 0, none⟩))) (hA : Cell1 W cA va) (ht : Cell1 W ct (.pointer (some ⟨b, o, none⟩))) (hs : Slot W b o) (hlo : LotsAt C1 D1 W q1 vl f) (hc : checkE f = 0)
  (hz : IsInts B W va zs) (hzl : (zs.length : Int) = f.senders) (hof : OfMap W bm f.senders.toNat P) (hB : B ≤ W.heap.size) (inV eachV : Value) (hk : ¬ 0 ≤ leastN (fun i => !leadE f (P i) (nth zs i)) f.senders.toNat) :
  Calls Tryz.prog 30 #[.map (some bm), .int .i64 (-1), inV, eachV, .pointer (some ⟨cX, 0, none⟩), .pointer (some ⟨cA, 0, none⟩), .pointer (some ⟨ct, 0, none⟩), .pointer (some ⟨cF, 0, none⟩)] W fun e W' =>
   e = .returned (.bool false) ∧ Below W.heap.size W W' := by
 obtain ⟨bz, oz, cz, ⟨az, rfl, hz1, hz2, hz3⟩, hz4, hz5, hzc⟩ := id hz
 have hzn : zs.length = f.senders.toNat := by omega
 have hbd := leastN_bd (fun i => !leadE f (P i) (nth zs i)) f.senders.toNat
 obtain ⟨_, h64, _⟩ := checkE_ok hc
 have HST := Lib.hid (stuck_any C1 D1 B W q1 bm f.senders.toNat vl _ f zs P hlo hc hof hz hzn hB)
 obtain ⟨K, hK⟩ : ∃ x, leastN (fun i => !leadE f (P i) (nth zs i)) f.senders.toNat = x := ⟨_, rfl⟩
 rw [hK] at HST hbd hk
 have m1 := hX.cell
 have m2 := hA.cell
 have HT := Lib.hid ht
 have HSL := Lib.hid hs
 clear hK hX hA ht hs hlo hz hzl hof hz3 hzc hz5 hzn
 have hk1 : decide (0 ≤ K) = false := decide_eq_false hk
 go_enter Tryz.func30, Tryz.ntmps30
 go_upto_region 2 with (go_at_call 31; refine HST.out.mono ?_; rintro e W1 ⟨rfl, hb1⟩; have HB1 := Lib.hid hb1; clear hb1)
 go_wp2
 go_ret
 exact ⟨rfl, HB1.out⟩
/-- while Deny lays a denial: fm: its children are made; fs: it is stored -/
structure MkR (W : World) (b o n : Nat) (l i : Int) (fm fs : Bool) (w : World) : Prop where
 be : fs = false → Below W.heap.size W w
 lo : fm = false → fs = false → w.heap.size = W.heap.size
 md : fm = true → CellsN w W.heap.size (madeCells zeroD (n * 4))
 st : fs = true → SlotT (fun _ => False) b o W w ∧ SlotC b o (.int .i64 l) (.int .i64 i) (.slice (some ⟨W.heap.size, 0, none⟩) n n) (.int .i64 0) w
theorem MkR.start (W : World) (b o n : Nat) (l i : Int) (m : Nat) : MkR W b o n l i false false (W.drewN m) :=
 ⟨fun _ => below_drewN (Below.refl _ _) m, fun _ _ => rfl, (fun e => by cases e), (fun e => by cases e)⟩
theorem MkR.sm {W : World} {b o n : Nat} {l i : Int} {fm fs : Bool} {w : World} (h : MkR W b o n l i fm fs w) (hm : fm = false) (hs : fs = false) (t : TypeId) : MkR W b o n l i true fs (w.alloc (.cells (madeCells zeroD (n * 4)) t)) := by
 have hl := h.lo hm hs
 exact ⟨fun e => (h.be e).alloc (by omega) _, (fun e => by cases e), (fun _ => by rw [← hl]; exact CellsN.new w _ _), (fun e => by rw [hs] at e; cases e)⟩
theorem MkR.ss {W : World} {b o n : Nat} {l i : Int} {fm fs : Bool} {w : World} (h : MkR W b o n l i fm fs w) (hs : fs = false) (hm : fm = true) (hsl : Slot W b o) :
  MkR W b o n l i fm true ((((w.setCell ⟨b, o, none⟩ (.int .i64 l)).setCell ⟨b, o + 1, none⟩ (.int .i64 i)).setCell ⟨b, o + 2, none⟩ (.slice (some ⟨W.heap.size, 0, none⟩) n n)).setCell ⟨b, o + 3, none⟩ (.int .i64 0)) := by
 have hlt := hsl.lt
 have hg := fun (w : World) k v => Turned.of_grown (X := fun q => q = b) (grown_setCell w ⟨b, k, none⟩ v) (fun q e => by simpa using e.symm)
 exact ⟨(fun e => by cases e), (fun e => by rw [hm] at e; cases e), fun e => (h.md e).turned ((((hg _ _ _).trans (hg _ _ _)).trans (hg _ _ _)).trans (hg _ _ _)) (fun e => by omega), fun _ => slot_set hsl (h.be hs) _ _ _ _⟩
set_option maxHeartbeats 8000000 in
set_option maxRecDepth 100000 in
/-- nobody is stuck, and a lot is next -/
theorem dengo_any (C1 D1 B : Nat) (W : World) (cX cA ct cF q1 bm b o : Nat) (vl va : Value) (f : Flow) (zs : List Int) (P : Nat → Int) (hX : Cell1 W cX (.pointer (some ⟨q1, 0, none⟩))) (hA : Cell1 W cA va) (ht : Cell1 W ct (.pointer (some ⟨b, o, none⟩))) (hs : Slot W b o) (hlo : LotsAt C1 D1 W q1 vl f) (hc : checkE f = 0)
  (hz : IsInts B W va zs) (hzl : (zs.length : Int) = f.senders) (hof : OfMap W bm f.senders.toNat P) (hB : B ≤ W.heap.size) (k it n : Nat) (e1 e2 e3 e4 e5 e6 e7 : Value) (RB : Bool) (Post : World → Prop) (hk : ¬ 0 ≤ leastN (fun i => !leadE f (P i) (nth zs i)) f.senders.toNat) (hF : Box W cF #[.int .i64 f.senders, vl]) (hls : IsLots B W vl f.lots) (hkl : k < f.lots.length) (hn : it + n = (lotAt f.lots k).ins.length)
  (hcall : ∀ (W2 : World) (qm kb : Nat), W.heap.size ≤ qm → qm < kb → kb < W2.heap.size → SlotT (fun _ => False) b o W W2 → SlotC b o (.int .i64 (k : Int)) (.int .i64 (it : Int)) (.slice (some ⟨kb, 0, none⟩) n n) (.int .i64 0) W2 → Cell1 W2 qm (.pointer (some ⟨b, o, none⟩)) → CellsN W2 kb (madeCells zeroD (n * 4)) →
   Calls Tryz.prog 53 #[.func (.func 32) #[] #[.pointer (some ⟨qm, 0, none⟩), .pointer (some ⟨ct, 0, none⟩)], e1, e2, e3, e4, e5, e6, e7] W2 fun e W' => e = .returned (.bool RB) ∧ Post W') :
  Calls Tryz.prog 30 #[.map (some bm), .int .i64 (k : Int), .int .i64 (it : Int), .func (.func 53) #[] #[e1, e2, e3, e4, e5, e6, e7], .pointer (some ⟨cX, 0, none⟩), .pointer (some ⟨cA, 0, none⟩), .pointer (some ⟨ct, 0, none⟩), .pointer (some ⟨cF, 0, none⟩)] W fun e W' =>
   e = .returned (.bool RB) ∧ Post W' := by
 have HCA := Lib.hid hcall
 have hmf := @run_makeFunc_any Tryz.prog
 clear hcall
 obtain ⟨bz, oz, cz, ⟨az, rfl, hz1, hz2, hz3⟩, hz4, hz5, hzc⟩ := id hz
 have hzn : zs.length = f.senders.toNat := by omega
 have hbd := leastN_bd (fun i => !leadE f (P i) (nth zs i)) f.senders.toNat
 obtain ⟨_, h64, _⟩ := checkE_ok hc
 have HST := Lib.hid (stuck_any C1 D1 B W q1 bm f.senders.toNat vl _ f zs P hlo hc hof hz hzn hB)
 obtain ⟨K, hK⟩ : ∃ x, leastN (fun i => !leadE f (P i) (nth zs i)) f.senders.toNat = x := ⟨_, rfl⟩
 rw [hK] at HST hbd hk
 have m1 := hX.cell
 have m2 := hA.cell
 have HT := Lib.hid ht
 have HSL := Lib.hid hs
 clear hK hX hA ht hs hlo hz hzl hof hz3 hzc hz5 hzn
 obtain ⟨bl, ol, cap, ⟨a, rfl, hL1, hL2, hL3⟩, hL4, hL5⟩ := hls
 obtain rfl : a = some ⟨bl, ol, none⟩ := by rcases hL3 with h | h; exact h; omega
 obtain ⟨vi, vk, vp, q1', _, _, hli, _, _⟩ := hL5 k hkl
 obtain ⟨ai, ci, rfl⟩ := hli.form
 have HQ1 := Lib.hid q1'
 have hni : (lotAt f.lots k).ins.length ≤ 50000 := ins_small hc hkl
 have h2000 := (checkE_ok hc).2.2.1
 have HF := Lib.hid hF
 obtain ⟨N, hN⟩ : ∃ x, (lotAt f.lots k).ins.length = x := ⟨_, rfl⟩
 rw [hN] at hn HQ1 hni
 clear hL3 hL5 q1' hli hF hN
 have hk1 : decide (0 ≤ K) = false := decide_eq_false hk
 have hkn : decide ((k : Int) < 0) = false := decide_eq_false (by omega)
 have HMK := Lib.hid (fun w => run_make_den n (by omega) w)
 go_enter Tryz.func30, Tryz.ntmps30
 go_upto_region 2 with (go_at_call 31; refine HST.out.mono ?_; rintro e W1 ⟨rfl, hb1⟩; have HB1 := Lib.hid hb1; clear hb1)
 have m3 := (HT.out.ext HB1.out).cell
 go_upto_region 8 with fail
 refine wp_name (fun W2 hW2 => ?_)
 have HB12 : Hid (Below W1.heap.size W1 W2) := Lib.hid (by rw [hW2]; exact box_below' W1 _)
 have HQM : Hid (Cell1 W2 W1.heap.size (.pointer (some ⟨b, o, none⟩))) := Lib.hid (by rw [hW2]; exact Cell1.new W1 _ _)
 have HZ2 : Hid (W2.heap.size = W1.heap.size + 1) := Lib.hid (by rw [hW2]; simp)
 clear hW2 m3
 have HB2 : Hid (Below W.heap.size W W2) := Lib.hid (HB1.out.trans (HB12.out.mono HB1.out.size))
 have HSL2 := Lib.hid (HSL.out.turned (Turned.of_below (X := fun _ => False) HB2.out) (fun e => e))
 have HRD : Hid (∀ w, Below W2.heap.size W2 w → w.cell? ⟨W1.heap.size, 0, none⟩ = some (.pointer (some ⟨b, o, none⟩)) ∧ w.cell? ⟨cF, 1, none⟩ = some (.slice (some ⟨bl, ol, none⟩) f.lots.length cap) ∧ w.cell? ⟨bl, ol + k * 3, none⟩ = some (.slice ai N ci)) := Lib.hid (fun w hb => by
  have h2 := (HF.out.ext (HB2.out.trans (hb.mono HB2.out.size))).2 1
  simp at h2
  exact ⟨(HQM.out.ext hb).cell, h2, (HQ1.out.below ((HB2.out.trans (hb.mono HB2.out.size)).mono hB) (Nat.le_refl _)).2⟩)
 have hsub : IntKind.i64.wrap ((N : Int) - (it : Int)) = (n : Int) := by rw [IntWalk.i64_in _ (by omega)]; omega
 obtain ⟨s1, hs1⟩ : ∃ x, W1.heap.size = x := ⟨_, rfl⟩
 have HS1 := Lib.hid hs1
 rw [hs1] at HQM HZ2 HRD ⊢
 clear hs1
 obtain ⟨V, hV⟩ : ∃ V : List (Option Value), V = [some (.pointer (some ⟨b, o, none⟩)), some (.int .i64 (k : Int)), some (.int .i64 (it : Int)), some (.pointer (some ⟨cF, 1, none⟩)), some (.slice (some ⟨bl, ol, none⟩) f.lots.length cap), some (.int .i64 (k : Int)), some (.pointer (some ⟨bl, ol + k * 3, none⟩)), some (.pointer (some ⟨bl, ol + k * 3, none⟩)), some (.slice ai N ci), some (.int .i64 (N : Int)), some (.int .i64 (it : Int)), some (.int .i64 (n : Int)), some (.slice (some ⟨W2.heap.size, 0, none⟩) n n), some (.agg #[.int .i64 (k : Int), .int .i64 (it : Int), .slice (some ⟨W2.heap.size, 0, none⟩) n n, .int .i64 0]), some (.pointer (some ⟨b, o, none⟩)), none] := ⟨_, rfl⟩
 have HVV := Lib.hid hV
 clear hV
 refine wp_region_V [some 28, some 29, some 30, some 31, some 32, some 33, some 34, some 35, some 36, some 37, some 38, some 39, some 40, some 41, some 42, none] (fun L w' xs => ValsAt V L xs ∧ (MkR W2 b o n (k : Int) (it : Int) (L 12) (L 15) w' ∧ (L 15 = true → L 0 = true ∧ L 4 = true ∧ L 8 = true ∧ L 12 = true))) (by kernel_rfl) (by kernel_rfl) (by rfl) (by rfl) (by rfl) ?_ ?_ ?_
 focus
  exact fun xs => ⟨ValsAt.none _ _, (by exact MkR.start W2 b o n _ _ 1), (fun e => by cases e)⟩
 focus
  refine ⟨?_, ?_, ?_, ?_, ?_, ?_, ?_, ?_, ?_, ?_, ?_, ?_, ?_, ?_, ?_, ?_, trivial⟩
  all_goals
   intro L a' w' xs hi hd hf hJ K hK
   obtain ⟨hv, hA, h15⟩ := hJ
   have HF := Lib.hid hf
   have HVA := Lib.hid hv
   have HLI := Lib.hid hi
   clear hf hv hi
  focus
   clear hd
   obtain ⟨ρ, hρ⟩ : ∃ ρ, a'.eval = ρ := ⟨_, rfl⟩
   have hcst := cstE hρ
   have l14 : ρ (.tmp 14) = .pointer (some ⟨s1, 0, none⟩) := (congrFun hρ (.tmp 14)).symm.trans (HF.out.lo 14 rfl)
   have hn15 : L 15 = false := by
    cases e : L 15 with
    | false => rfl
    | true => obtain ⟨a0, a4, a8, a12⟩ := h15 e; rw [HLI.out] at a0; cases a0
   obtain ⟨y1, y2, y3⟩ := HRD.out w' (hA.be hn15)
   rw [if_pos (by simp [Region.wanted])]
   unfold Oper.wp
   rw [hρ]
   clear hρ
   go_simp
   exact hK.out _ _ ⟨HVA.out.set (i := 0) (by rw [HVV.out]; rfl), (by exact hA), (fun e => by obtain ⟨a0, a4, a8, a12⟩ := h15 e; simp [upd, a0, a4, a8, a12])⟩
  focus
   clear hd
   obtain ⟨ρ, hρ⟩ : ∃ ρ, a'.eval = ρ := ⟨_, rfl⟩
   have hcst := cstE hρ
   have l1 : ρ (.tmp 1) = .int .i64 (k : Int) := (congrFun hρ (.tmp 1)).symm.trans (HF.out.lo 1 rfl)
   rw [if_pos (by simp [Region.wanted])]
   unfold Oper.wp
   rw [hρ]
   clear hρ
   go_simp
   exact hK.out _ _ ⟨HVA.out.set (i := 1) (by rw [HVV.out]; rfl), (by exact hA), (fun e => by obtain ⟨a0, a4, a8, a12⟩ := h15 e; simp [upd, a0, a4, a8, a12])⟩
  focus
   clear hd
   obtain ⟨ρ, hρ⟩ : ∃ ρ, a'.eval = ρ := ⟨_, rfl⟩
   have hcst := cstE hρ
   have l2 : ρ (.tmp 2) = .int .i64 (it : Int) := (congrFun hρ (.tmp 2)).symm.trans (HF.out.lo 2 rfl)
   rw [if_pos (by simp [Region.wanted])]
   unfold Oper.wp
   rw [hρ]
   clear hρ
   go_simp
   exact hK.out _ _ ⟨HVA.out.set (i := 2) (by rw [HVV.out]; rfl), (by exact hA), (fun e => by obtain ⟨a0, a4, a8, a12⟩ := h15 e; simp [upd, a0, a4, a8, a12])⟩
  focus
   clear hd
   obtain ⟨ρ, hρ⟩ : ∃ ρ, a'.eval = ρ := ⟨_, rfl⟩
   have hcst := cstE hρ
   have l7 : ρ (.tmp 7) = .pointer (some ⟨cF, 0, none⟩) := (congrFun hρ (.tmp 7)).symm.trans (HF.out.lo 7 rfl)
   rw [if_pos (by simp [Region.wanted])]
   unfold Oper.wp
   rw [hρ]
   clear hρ
   go_simp
   exact hK.out _ _ ⟨HVA.out.set (i := 3) (by rw [HVV.out]; rfl), (by exact hA), (fun e => by obtain ⟨a0, a4, a8, a12⟩ := h15 e; simp [upd, a0, a4, a8, a12])⟩
  focus
   obtain ⟨d3, _⟩ := hd
   obtain ⟨ρ, hρ⟩ : ∃ ρ, a'.eval = ρ := ⟨_, rfl⟩
   have hcst := cstE hρ
   have v3 : ρ (.tmp 31) = .pointer (some ⟨cF, 1, none⟩) := (congrFun hρ (.tmp 31)).symm.trans ((HF.out.ev 3 rfl d3).trans (HVA.out 3 _ (by rw [HVV.out]; rfl) d3))
   have hn15 : L 15 = false := by
    cases e : L 15 with
    | false => rfl
    | true => obtain ⟨a0, a4, a8, a12⟩ := h15 e; rw [HLI.out] at a4; cases a4
   obtain ⟨y1, y2, y3⟩ := HRD.out w' (hA.be hn15)
   rw [if_pos (by simp [Region.wanted])]
   unfold Oper.wp
   rw [hρ]
   clear hρ
   go_simp
   exact hK.out _ _ ⟨HVA.out.set (i := 4) (by rw [HVV.out]; rfl), (by exact hA), (fun e => by obtain ⟨a0, a4, a8, a12⟩ := h15 e; simp [upd, a0, a4, a8, a12])⟩
  focus
   clear hd
   obtain ⟨ρ, hρ⟩ : ∃ ρ, a'.eval = ρ := ⟨_, rfl⟩
   have hcst := cstE hρ
   have l1 : ρ (.tmp 1) = .int .i64 (k : Int) := (congrFun hρ (.tmp 1)).symm.trans (HF.out.lo 1 rfl)
   rw [if_pos (by simp [Region.wanted])]
   unfold Oper.wp
   rw [hρ]
   clear hρ
   go_simp
   exact hK.out _ _ ⟨HVA.out.set (i := 5) (by rw [HVV.out]; rfl), (by exact hA), (fun e => by obtain ⟨a0, a4, a8, a12⟩ := h15 e; simp [upd, a0, a4, a8, a12])⟩
  focus
   obtain ⟨d4, d5, _⟩ := hd
   obtain ⟨ρ, hρ⟩ : ∃ ρ, a'.eval = ρ := ⟨_, rfl⟩
   have hcst := cstE hρ
   have v4 : ρ (.tmp 32) = .slice (some ⟨bl, ol, none⟩) f.lots.length cap := (congrFun hρ (.tmp 32)).symm.trans ((HF.out.ev 4 rfl d4).trans (HVA.out 4 _ (by rw [HVV.out]; rfl) d4))
   have v5 : ρ (.tmp 33) = .int .i64 (k : Int) := (congrFun hρ (.tmp 33)).symm.trans ((HF.out.ev 5 rfl d5).trans (HVA.out 5 _ (by rw [HVV.out]; rfl) d5))
   rw [if_pos (by simp [Region.wanted])]
   unfold Oper.wp
   rw [hρ]
   clear hρ
   go_simp
   exact hK.out _ _ ⟨HVA.out.set (i := 6) (by rw [HVV.out]; rfl), (by exact hA), (fun e => by obtain ⟨a0, a4, a8, a12⟩ := h15 e; simp [upd, a0, a4, a8, a12])⟩
  focus
   obtain ⟨d6, _⟩ := hd
   obtain ⟨ρ, hρ⟩ : ∃ ρ, a'.eval = ρ := ⟨_, rfl⟩
   have hcst := cstE hρ
   have v6 : ρ (.tmp 34) = .pointer (some ⟨bl, ol + k * 3, none⟩) := (congrFun hρ (.tmp 34)).symm.trans ((HF.out.ev 6 rfl d6).trans (HVA.out 6 _ (by rw [HVV.out]; rfl) d6))
   rw [if_pos (by simp [Region.wanted])]
   unfold Oper.wp
   rw [hρ]
   clear hρ
   go_simp
   exact hK.out _ _ ⟨HVA.out.set (i := 7) (by rw [HVV.out]; rfl), (by exact hA), (fun e => by obtain ⟨a0, a4, a8, a12⟩ := h15 e; simp [upd, a0, a4, a8, a12])⟩
  focus
   obtain ⟨d7, _⟩ := hd
   obtain ⟨ρ, hρ⟩ : ∃ ρ, a'.eval = ρ := ⟨_, rfl⟩
   have hcst := cstE hρ
   have v7 : ρ (.tmp 35) = .pointer (some ⟨bl, ol + k * 3, none⟩) := (congrFun hρ (.tmp 35)).symm.trans ((HF.out.ev 7 rfl d7).trans (HVA.out 7 _ (by rw [HVV.out]; rfl) d7))
   have hn15 : L 15 = false := by
    cases e : L 15 with
    | false => rfl
    | true => obtain ⟨a0, a4, a8, a12⟩ := h15 e; rw [HLI.out] at a8; cases a8
   obtain ⟨y1, y2, y3⟩ := HRD.out w' (hA.be hn15)
   rw [if_pos (by simp [Region.wanted])]
   unfold Oper.wp
   rw [hρ]
   clear hρ
   go_simp
   exact hK.out _ _ ⟨HVA.out.set (i := 8) (by rw [HVV.out]; rfl), (by exact hA), (fun e => by obtain ⟨a0, a4, a8, a12⟩ := h15 e; simp [upd, a0, a4, a8, a12])⟩
  focus
   obtain ⟨d8, _⟩ := hd
   obtain ⟨ρ, hρ⟩ : ∃ ρ, a'.eval = ρ := ⟨_, rfl⟩
   have hcst := cstE hρ
   have v8 : ρ (.tmp 36) = .slice ai N ci := (congrFun hρ (.tmp 36)).symm.trans ((HF.out.ev 8 rfl d8).trans (HVA.out 8 _ (by rw [HVV.out]; rfl) d8))
   rw [if_pos (by simp [Region.wanted])]
   unfold Oper.wp
   rw [hρ]
   clear hρ
   go_simp
   exact hK.out _ _ ⟨HVA.out.set (i := 9) (by rw [HVV.out]; rfl), (by exact hA), (fun e => by obtain ⟨a0, a4, a8, a12⟩ := h15 e; simp [upd, a0, a4, a8, a12])⟩
  focus
   clear hd
   obtain ⟨ρ, hρ⟩ : ∃ ρ, a'.eval = ρ := ⟨_, rfl⟩
   have hcst := cstE hρ
   have l2 : ρ (.tmp 2) = .int .i64 (it : Int) := (congrFun hρ (.tmp 2)).symm.trans (HF.out.lo 2 rfl)
   rw [if_pos (by simp [Region.wanted])]
   unfold Oper.wp
   rw [hρ]
   clear hρ
   go_simp
   exact hK.out _ _ ⟨HVA.out.set (i := 10) (by rw [HVV.out]; rfl), (by exact hA), (fun e => by obtain ⟨a0, a4, a8, a12⟩ := h15 e; simp [upd, a0, a4, a8, a12])⟩
  focus
   obtain ⟨d9, d10, _⟩ := hd
   obtain ⟨ρ, hρ⟩ : ∃ ρ, a'.eval = ρ := ⟨_, rfl⟩
   have hcst := cstE hρ
   have v9 : ρ (.tmp 37) = .int .i64 (N : Int) := (congrFun hρ (.tmp 37)).symm.trans ((HF.out.ev 9 rfl d9).trans (HVA.out 9 _ (by rw [HVV.out]; rfl) d9))
   have v10 : ρ (.tmp 38) = .int .i64 (it : Int) := (congrFun hρ (.tmp 38)).symm.trans ((HF.out.ev 10 rfl d10).trans (HVA.out 10 _ (by rw [HVV.out]; rfl) d10))
   rw [if_pos (by simp [Region.wanted])]
   unfold Oper.wp
   rw [hρ]
   clear hρ
   go_simp
   exact hK.out _ _ ⟨HVA.out.set (i := 11) (by rw [HVV.out]; rfl), (by exact hA), (fun e => by obtain ⟨a0, a4, a8, a12⟩ := h15 e; simp [upd, a0, a4, a8, a12])⟩
  focus
   obtain ⟨d11, _, _⟩ := hd
   obtain ⟨ρ, hρ⟩ : ∃ ρ, a'.eval = ρ := ⟨_, rfl⟩
   have hcst := cstE hρ
   have v11 : ρ (.tmp 39) = .int .i64 (n : Int) := (congrFun hρ (.tmp 39)).symm.trans ((HF.out.ev 11 rfl d11).trans (HVA.out 11 _ (by rw [HVV.out]; rfl) d11))
   rw [if_pos (by simp [Region.wanted])]
   unfold Oper.wp
   rw [hρ]
   clear hρ
   have hn15 : L 15 = false := by
    cases e : L 15 with
    | false => rfl
    | true => obtain ⟨a0, a4, a8, a12⟩ := h15 e; rw [HLI.out] at a12; cases a12
   have hmk := HMK.out w'
   rw [hA.lo HLI.out hn15] at hmk
   go_simp
   exact hK.out _ _ ⟨HVA.out.set (i := 12) (by rw [HVV.out]; rfl), (by exact hA.sm HLI.out hn15 _), (fun e => by obtain ⟨a0, a4, a8, a12⟩ := h15 e; simp [upd, a0, a4, a8, a12])⟩
  focus
   obtain ⟨d1, d2, d12, _⟩ := hd
   obtain ⟨ρ, hρ⟩ : ∃ ρ, a'.eval = ρ := ⟨_, rfl⟩
   have hcst := cstE hρ
   have v1 : ρ (.tmp 29) = .int .i64 (k : Int) := (congrFun hρ (.tmp 29)).symm.trans ((HF.out.ev 1 rfl d1).trans (HVA.out 1 _ (by rw [HVV.out]; rfl) d1))
   have v2 : ρ (.tmp 30) = .int .i64 (it : Int) := (congrFun hρ (.tmp 30)).symm.trans ((HF.out.ev 2 rfl d2).trans (HVA.out 2 _ (by rw [HVV.out]; rfl) d2))
   have v12 : ρ (.tmp 40) = .slice (some ⟨W2.heap.size, 0, none⟩) n n := (congrFun hρ (.tmp 40)).symm.trans ((HF.out.ev 12 rfl d12).trans (HVA.out 12 _ (by rw [HVV.out]; rfl) d12))
   rw [if_pos (by simp [Region.wanted])]
   unfold Oper.wp
   rw [hρ]
   clear hρ
   go_simp
   exact hK.out _ _ ⟨HVA.out.set (i := 13) (by rw [HVV.out]; rfl), (by exact hA), (fun e => by obtain ⟨a0, a4, a8, a12⟩ := h15 e; simp [upd, a0, a4, a8, a12])⟩
  focus
   obtain ⟨d0, _, d1, d2, d3, d4, d5, d6, d7, d8, d9, d10, d11, d12, d13, _⟩ := hd
   obtain ⟨ρ, hρ⟩ : ∃ ρ, a'.eval = ρ := ⟨_, rfl⟩
   have hcst := cstE hρ
   have v0 : ρ (.tmp 28) = .pointer (some ⟨b, o, none⟩) := (congrFun hρ (.tmp 28)).symm.trans ((HF.out.ev 0 rfl d0).trans (HVA.out 0 _ (by rw [HVV.out]; rfl) d0))
   rw [if_pos (by simp [Region.wanted])]
   unfold Oper.wp
   rw [hρ]
   clear hρ
   go_simp
   exact hK.out _ _ ⟨HVA.out.set (i := 14) (by rw [HVV.out]; rfl), (by exact hA), (fun e => by obtain ⟨a0, a4, a8, a12⟩ := h15 e; simp [upd, a0, a4, a8, a12])⟩
  focus
   obtain ⟨d14, d13, d0, d1, d2, d3, d4, d5, d6, d7, d8, d9, d10, d11, d12, _, _⟩ := hd
   obtain ⟨ρ, hρ⟩ : ∃ ρ, a'.eval = ρ := ⟨_, rfl⟩
   have hcst := cstE hρ
   have v14 : ρ (.tmp 42) = .pointer (some ⟨b, o, none⟩) := (congrFun hρ (.tmp 42)).symm.trans ((HF.out.ev 14 rfl d14).trans (HVA.out 14 _ (by rw [HVV.out]; rfl) d14))
   have v13 : ρ (.tmp 41) = .agg #[.int .i64 (k : Int), .int .i64 (it : Int), .slice (some ⟨W2.heap.size, 0, none⟩) n n, .int .i64 0] := (congrFun hρ (.tmp 41)).symm.trans ((HF.out.ev 13 rfl d13).trans (HVA.out 13 _ (by rw [HVV.out]; rfl) d13))
   rw [if_pos (by simp [Region.wanted])]
   unfold Oper.wp
   rw [hρ]
   clear hρ
   have hb := hA.be HLI.out
   have hs1 := HSL2.out.turned (Turned.of_below (X := fun _ => False) hb) (fun e => e)
   obtain ⟨z0, z1, z2, z3, n0, n1, n2, n3⟩ := hs1.cells
   have f0 := hs1.free o
   have f1 := hs1.free (o + 1)
   have f2 := hs1.free (o + 2)
   have f3 := hs1.free (o + 3)
   have hss := Lib.hid (hA.ss HLI.out d12 HSL2.out)
   clear hs1
   go_simp
   exact hK.out undef _ ⟨HVA.out.free (i := 15) (by rw [HVV.out]; rfl) _, (by exact hss.out), (fun _ => by simp [upd, d0, d4, d8, d12])⟩
 focus
  intro L w' xs hL hJ
  obtain ⟨hv, hA, h15⟩ := hJ
  have e0 : xs 0 = .pointer (some ⟨b, o, none⟩) := hv 0 _ (by rw [HVV.out]; rfl) (hL 0 (by decide))
  have e1 : xs 1 = .int .i64 (k : Int) := hv 1 _ (by rw [HVV.out]; rfl) (hL 1 (by decide))
  have e2 : xs 2 = .int .i64 (it : Int) := hv 2 _ (by rw [HVV.out]; rfl) (hL 2 (by decide))
  have e3 : xs 3 = .pointer (some ⟨cF, 1, none⟩) := hv 3 _ (by rw [HVV.out]; rfl) (hL 3 (by decide))
  have e4 : xs 4 = .slice (some ⟨bl, ol, none⟩) f.lots.length cap := hv 4 _ (by rw [HVV.out]; rfl) (hL 4 (by decide))
  have e5 : xs 5 = .int .i64 (k : Int) := hv 5 _ (by rw [HVV.out]; rfl) (hL 5 (by decide))
  have e6 : xs 6 = .pointer (some ⟨bl, ol + k * 3, none⟩) := hv 6 _ (by rw [HVV.out]; rfl) (hL 6 (by decide))
  have e7 : xs 7 = .pointer (some ⟨bl, ol + k * 3, none⟩) := hv 7 _ (by rw [HVV.out]; rfl) (hL 7 (by decide))
  have e8 : xs 8 = .slice ai N ci := hv 8 _ (by rw [HVV.out]; rfl) (hL 8 (by decide))
  have e9 : xs 9 = .int .i64 (N : Int) := hv 9 _ (by rw [HVV.out]; rfl) (hL 9 (by decide))
  have e10 : xs 10 = .int .i64 (it : Int) := hv 10 _ (by rw [HVV.out]; rfl) (hL 10 (by decide))
  have e11 : xs 11 = .int .i64 (n : Int) := hv 11 _ (by rw [HVV.out]; rfl) (hL 11 (by decide))
  have e12 : xs 12 = .slice (some ⟨W2.heap.size, 0, none⟩) n n := hv 12 _ (by rw [HVV.out]; rfl) (hL 12 (by decide))
  have e13 : xs 13 = .agg #[.int .i64 (k : Int), .int .i64 (it : Int), .slice (some ⟨W2.heap.size, 0, none⟩) n n, .int .i64 0] := hv 13 _ (by rw [HVV.out]; rfl) (hL 13 (by decide))
  have e14 : xs 14 = .pointer (some ⟨b, o, none⟩) := hv 14 _ (by rw [HVV.out]; rfl) (hL 14 (by decide))
  simp only [putGo, Act.put, List.setIfInBounds_toArray, List.set_cons_zero, List.set_cons_succ, e0, e1, e2, e3, e4, e5, e6, e7, e8, e9, e10, e11, e12, e13, e14]
  clear hv e0 e1 e2 e3 e4 e5 e6 e7 e8 e9 e10 e11 e12 e13 e14
 have hA := Lib.hid hA
 have hm12 := hL 12 (by decide)
 have hm15 := hL 15 (by decide)
 obtain ⟨W3, hW3⟩ : ∃ X, w' = X := ⟨_, rfl⟩
 rw [hW3] at hA ⊢
 have HMW := Lib.hid (hA.out.md hm12)
 have HSW := Lib.hid (hA.out.st hm15)
 clear hm12 hm15 hL hA hW3
 have HQ3 : Hid (Cell1 W3 s1 (.pointer (some ⟨b, o, none⟩))) := Lib.hid (HQM.out.turned HSW.out.1.tu (fun e => by
  rcases e with e | e
  ·exact e
  ·have h1 := HSL.out.lt
   have h2 := HB1.out.size
   have h3 := HS1.out
   omega))
 have HNUM : Hid (W.heap.size ≤ s1 ∧ s1 < W2.heap.size ∧ W2.heap.size < W3.heap.size) := Lib.hid ⟨by have := HB1.out.size; have := HS1.out; omega, by have := HZ2.out; omega, HMW.out.ltN⟩
 have HCC := Lib.hid (HCA.out W3 s1 W2.heap.size HNUM.out.1 HNUM.out.2.1 HNUM.out.2.2 ((SlotT.of (Turned.of_below (X := fun _ => False) HB2.out) HSL.out.lt (fun _ _ e => e.elim)).trans HSW.out.1) HSW.out.2 HQ3.out HMW.out)
 obtain ⟨kb, hkb⟩ : ∃ x, W2.heap.size = x := ⟨_, rfl⟩
 rw [hkb]
 clear HCA
 go_wp2_with (go_at_call 53; refine HCC.out.mono ?_; rintro e w9 ⟨rfl, hq9⟩; have HQ9 := Lib.hid hq9; clear hq9)
 go_ret
 exact ⟨rfl, HQ9.out⟩
end Go.Proofs.YteiaeaciaglmgaaGreat
namespace Go.Proofs.YteiaeaciaglmgaaGreat
open Go.RowKit
/-- the blocks of Deny -/
structure EnvD where
 B : Nat
 C1 : Nat
 D1 : Nat
 q1 : Nat
 cp : Nat
 ct : Nat
 cF : Nat
 cX : Nat
 cA : Nat
 top : Nat
 vl : Value
 va : Value
 f : Flow
 zs : List Int
structure EnvD.Ok (R : EnvD) : Prop where
 b0 : R.B ≤ R.cp ∧ R.cp < R.top
 b1 : R.B ≤ R.ct ∧ R.ct < R.top
 b2 : R.B ≤ R.top ∧ R.D1 ≤ R.top
 b3 : R.cF < R.top ∧ R.cX < R.top ∧ R.cA < R.top
 ne : R.ct ≠ R.cF ∧ R.ct ≠ R.cX ∧ R.ct ≠ R.cA
 np : R.cp ≠ R.cF ∧ R.cp ≠ R.cX ∧ R.cp ≠ R.cA ∧ R.cp ≠ R.ct
 nl : R.ct < R.C1 ∨ R.D1 ≤ R.ct
 nq : R.cp < R.C1 ∨ R.D1 ≤ R.cp
 ck : checkE R.f = 0
 len : (R.zs.length : Int) = R.f.senders
structure DnyS (R : EnvD) (W : World) : Prop where
 bF : Box W R.cF #[.int .i64 R.f.senders, R.vl]
 bX : Cell1 W R.cX (.pointer (some ⟨R.q1, 0, none⟩))
 bA : Cell1 W R.cA R.va
 lots : LotsAt R.C1 R.D1 W R.q1 R.vl R.f
 flow : IsLots R.B W R.vl R.f.lots
 ints : IsInts R.B W R.va R.zs
 sz : R.top ≤ W.heap.size
theorem DnyS.turned {R : EnvD} (hR : R.Ok) {W W' : World} (h : DnyS R W) {X : Nat → Prop} (ht : Turned X W W') (hX : ∀ q, X q → q = R.ct ∨ q = R.cp ∨ R.top ≤ q) : DnyS R W' := by
 have h0 := hR.b0
 have h1 := hR.b1
 have h2 := hR.b2
 have h3 := hR.b3
 obtain ⟨n1, n2, n3⟩ := hR.ne
 obtain ⟨p1, p2, p3, p4⟩ := hR.np
 have h4 := hR.nl
 have h5 := hR.nq
 have hs := h.sz
 have hn : ∀ q, q < R.top → q ≠ R.ct → q ≠ R.cp → ¬ X q := fun q a b c d => by rcases hX q d with e | e | e; exact b e; exact c e; omega
 have hb := ht.below (B := R.B) (by omega) (fun q hq => hn q (by omega) (by omega) (by omega))
 exact ⟨h.bF.turned ht (hn _ (by omega) (by omega) (by omega)), h.bX.turned ht (hn _ (by omega) (by omega) (by omega)), h.bA.turned ht (hn _ (by omega) (by omega) (by omega)), h.lots.turned ht (fun q a b => hn q (by omega) (by omega) (by omega)), h.flow.below hb (Nat.le_refl _), h.ints.below hb (Nat.le_refl _), Nat.le_trans hs ht.size⟩
/-- a walk inside Deny -/
def EnvG (R : EnvD) (E : EnvW) : Prop := R.top ≤ E.bm ∧ E.bm < E.C
/-- what a call of Deny's function may write: a slot; what else is then kept -/
structure TkD (R : EnvD) (E : EnvW) where
 b : Nat
 o : Nat
 Oth : World → Prop
 keep : EnvG R E → ∀ W W', Oth W → b < W.heap.size → SlotT (fun q => q = R.ct ∨ q = E.bm) b o W W' → Oth W'
structure TkD.Ok {R : EnvD} {E : EnvW} (t : TkD R E) : Prop where
 n1 : t.b ≠ R.ct
 n2 : t.b ≠ E.bm
 n3 : t.b = R.cp ∨ R.top ≤ t.b
structure TkAt (R : EnvD) (E : EnvW) (t : TkD R E) (W : World) : Prop where
 env : DnyS R W
 ct : Cell1 W R.ct (.pointer (some ⟨t.b, t.o, none⟩))
 sl : Slot W t.b t.o
 oth : t.Oth W
 ok : t.Ok
structure TkDn (R : EnvD) (E : EnvW) (D : Option Den) (t : TkD R E) (W : World) : Prop where
 env : DnyS R W
 ct : ∃ v, Cell1 W R.ct v
 sl : Slot W t.b t.o
 oth : t.Oth W
 ok : t.Ok
 den : ∀ d, D = some d → ∃ c0 c1 c2 c3, SlotC t.b t.o c0 c1 c2 c3 W ∧ DenS (fun q => t.b < q ∧ E.C ≤ q ∧ q < W.heap.size) W [c0, c1, c2, c3] d
theorem TkAt.turned {R : EnvD} (hR : R.Ok) {E : EnvW} (hG : EnvG R E) {t : TkD R E} {W W' : World} (h : TkAt R E t W) (ht : Turned (fun q => q = E.bm) W W') : TkAt R E t W' := by
 have b1 := hR.b1
 have g := hG.1
 exact ⟨h.env.turned hR ht (fun q e => .inr (.inr (by omega))), h.ct.turned ht (by omega), h.sl.turned ht h.ok.n2, t.keep hG W W' h.oth h.sl.lt (SlotT.of ht h.sl.lt (fun q _ e => ⟨.inr e, fun e2 => h.ok.n2 (by omega)⟩)), h.ok⟩
theorem DenS.turned {S S' X : Nat → Prop} {W W' : World} {c : List Value} {d : Den} (h : DenS S W c d) (ht : Turned X W W') (hS : ∀ q, S q → q < W.heap.size ∧ ¬ X q) (hS' : ∀ q, S q → S' q) : DenS S' W' c d :=
 (h.keep (fun q hq => ht.block q (hS q hq).1 (hS q hq).2)).mono hS'
theorem TkDn.turned {R : EnvD} (hR : R.Ok) {E : EnvW} (hG : EnvG R E) {D : Option Den} {t : TkD R E} {W W' : World} (h : TkDn R E D t W) (ht : Turned (fun q => q = E.bm) W W') : TkDn R E D t W' := by
 have b1 := hR.b1
 have g := hG.1
 have g2 := hG.2
 have hz := ht.size
 obtain ⟨v, hv⟩ := h.ct
 refine ⟨h.env.turned hR ht (fun q e => .inr (.inr (by omega))), ⟨v, hv.turned ht (by omega)⟩, h.sl.turned ht h.ok.n2, t.keep hG W W' h.oth h.sl.lt (SlotT.of ht h.sl.lt (fun q _ e => ⟨.inr e, fun e2 => h.ok.n2 (by omega)⟩)), h.ok, fun d hd => ?_⟩
 obtain ⟨c0, c1, c2, c3, h1, h2⟩ := h.den d hd
 exact ⟨c0, c1, c2, c3, h1.turned ht h.sl.lt h.ok.n2, h2.turned ht (fun q hq => ⟨hq.2.2, fun e => by have := hq.2.1; omega⟩) (fun q hq => ⟨hq.1, hq.2.1, by have := hq.2.2; omega⟩)⟩
/-- Deny calls walk -/
def denCl (R : EnvD) (hR : R.Ok) (E : EnvW) : Client E where
 T := TkD R E
 At t W := EnvG R E → TkAt R E t W
 Dn m t w part W := EnvG R E → TkDn R E (denyN R.f R.zs m w part) t W
 X t q := q = R.ct ∨ q = t.b
 X0 q := q = R.ct
 res m _ w part := (denyN R.f R.zs m w part).isSome
 keep := fun t W W' h ht hG => (h hG).turned hR hG ht
 keepD := fun m t w p W W' h ht hG => (h hG).turned hR hG ht
structure DenE (R : EnvD) (E : EnvW) : Prop where
 ok : E.Ok
 b : E.B = R.B
 f : E.f = R.f
 pf : E.pf = 30
 p1 : E.p1 = .pointer (some ⟨R.cX, 0, none⟩)
 p2 : E.p2 = .pointer (some ⟨R.cA, 0, none⟩)
 p3 : E.p3 = .pointer (some ⟨R.ct, 0, none⟩)
 p4 : E.p4 = .pointer (some ⟨R.cF, 0, none⟩)
 g : EnvG R E
/-- behind a call that has stored a denial -/
theorem TkAt.done {R : EnvD} (hR : R.Ok) {E : EnvW} (hG : EnvG R E) {t : TkD R E} {W W' : World} (h : TkAt R E t W) {X : Nat → Prop} (ht : SlotT X t.b t.o W W') (hX : ∀ q, q < W.heap.size → X q → q = R.ct ∨ q = E.bm) (hct : ∃ v, Cell1 W' R.ct v) {D : Option Den}
  (hd : ∀ d, D = some d → ∃ c0 c1 c2 c3, SlotC t.b t.o c0 c1 c2 c3 W' ∧ DenS (fun q => t.b < q ∧ E.C ≤ q ∧ q < W'.heap.size) W' [c0, c1, c2, c3] d) : TkDn R E D t W' := by
 have g := hG.1
 have h3 := h.ok.n3
 refine ⟨h.env.turned hR (X := fun q => (X q ∨ q = t.b) ∧ q < W.heap.size) ⟨ht.tu.os, ht.tu.tape, ht.tu.output, ht.tu.size, fun k hk hn => ht.tu.block k hk (fun e => hn ⟨e, hk⟩)⟩ (fun q e => ?_), hct, ht.sl _ h.sl, t.keep hG W W' h.oth h.sl.lt ⟨ht.tu.mono (fun q hq e => e.imp (hX q hq) id), ht.ot, ht.sl⟩, h.ok, hd⟩
 rcases e.1 with e1 | e1
 ·rcases hX q e.2 e1 with e2 | e2
  ·exact .inl e2
  ·exact .inr (.inr (by omega))
 ·rcases h3 with h3 | h3
  ·exact .inr (.inl (by omega))
  ·exact .inr (.inr (by omega))
/-- the sender who is stuck -/
theorem stuckI_eq {f : Flow} {a : List Int} {w : List (List Int)} {part : List Int} (hc : checkE f = 0) (hso : StOk f w part) : leastN (fun i => !leadE f (posS f w part i) (nth a i)) f.senders.toNat = stuckI f a w part := (stuck_least hc hso).symm
theorem stuckI_64 {f : Flow} {a : List Int} {w : List (List Int)} {part : List Int} (hc : checkE f = 0) : I64 (stuckI f a w part) := by
 have h := leastN_bd (badB f a w part) f.senders.toNat
 have h2 : -1 ≤ stuckI f a w part ∧ stuckI f a w part < f.senders.toNat := h
 have := (checkE_ok hc).2.1
 unfold I64
 omega
theorem den_leaf (R : EnvD) (hR : R.Ok) (E : EnvW) (hE : DenE R E) (m : Nat) (w : List (List Int)) (part : List Int) (W : World) (t : TkD R E) (hso : StOk R.f w part) (hse : settleS R.f w part = (w, part)) (hS : WalkS E w part W) (hat : TkAt R E t W) (hfr : E.Free t.b) (lotV inV eachV : Value) (hk : 0 ≤ stuckI R.f R.zs w part) :
  Calls Tryz.prog E.pf #[.map (some E.bm), lotV, inV, eachV, E.p1, E.p2, E.p3, E.p4] W fun e W' =>
   e = .returned (.bool ((denCl R hR E).res m t w part)) ∧ WalkS E w part W' ∧ Turned (fun q => q = E.bm ∨ (denCl R hR E).X t q) W W' ∧ (denCl R hR E).Dn m t w part W' := by
 rw [hE.pf, hE.p1, hE.p2, hE.p3, hE.p4]
 have hmp := hS.mp
 have hn : E.n = R.f.senders.toNat := by unfold EnvW.n; rw [hE.f]
 rw [hn, hE.f] at hmp
 have b2 := hR.b2
 have hB : R.B ≤ W.heap.size := by have := hat.env.sz; omega
 have hst := stuckI_eq (a := R.zs) hR.ck hso
 refine (denleaf_any R.C1 R.D1 R.B W R.cX R.cA R.ct R.cF R.q1 E.bm t.b t.o R.vl R.va R.f R.zs _ hat.env.bX hat.env.bA hat.ct hat.sl hat.env.lots hR.ck hat.env.ints hR.len hmp hB lotV inV eachV (by rw [hst]; exact hk)).mono ?_
 rintro e W' ⟨rfl, h1, h2⟩
 rw [hst] at h2
 have hd := deny_stuck (n := m) hse hk
 have hct : Cell1 W' R.ct (.pointer (some ⟨t.b, t.o, none⟩)) := hat.ct.turned h1.tu (fun e => by rcases e with e | e; exact e; exact hat.ok.n1 e.symm)
 refine ⟨by show _ = Ending.returned (.bool (denyN R.f R.zs m w part).isSome); rw [hd]; rfl, hS.turned hE.ok h1.tu (fun q e => by rcases e with e | e; exact e.elim; rw [e]; exact hfr), h1.tu.mono (fun q _ e => by rcases e with e | e; exact e.elim; exact .inr (.inr e)), fun hG => hat.done hR hG h1 (fun q _ e => e.elim) ⟨_, hct⟩ (fun d hd2 => ?_)⟩
 rw [hd] at hd2
 cases hd2
 exact ⟨_, _, _, _, h2, DenS.leaf _ _ (stuckI_64 hR.ck)⟩
theorem den_end (R : EnvD) (hR : R.Ok) (E : EnvW) (hE : DenE R E) : EndC E (denCl R hR E) := by
 intro m w W t hso hw hS hat hX
 have hat' := hat hE.g
 have hse := settle_end (f := E.f) (part := []) hw
 rw [hE.f] at hso hse hw
 have hfr := (hX t.b (.inr rfl)).1
 by_cases hk : 0 ≤ stuckI R.f R.zs w []
 ·exact den_leaf R hR E hE m w [] W t hso hse hS hat' hfr _ _ _ hk
 ·rw [hE.pf, hE.p1, hE.p2, hE.p3, hE.p4]
  have hmp := hS.mp
  have hn : E.n = R.f.senders.toNat := by unfold EnvW.n; rw [hE.f]
  rw [hn, hE.f] at hmp
  have b2 := hR.b2
  have hB : R.B ≤ W.heap.size := by have := hat'.env.sz; omega
  have hst := stuckI_eq (a := R.zs) hR.ck hso
  refine (denend_any R.C1 R.D1 R.B W R.cX R.cA R.ct R.cF R.q1 E.bm t.b t.o R.vl R.va R.f R.zs _ hat'.env.bX hat'.env.bA hat'.ct hat'.sl hat'.env.lots hR.ck hat'.env.ints hR.len hmp hB _ _ (by rw [hst]; exact hk)).mono ?_
  rintro e W' ⟨rfl, hb⟩
  have hd := deny_end (n := m) hse hw hk
  refine ⟨by show _ = Ending.returned (.bool (denyN R.f R.zs m w []).isSome); rw [hd]; rfl, hS.ext hE.ok hb, Turned.of_below hb, fun hG => hat'.done hR hG (SlotT.of (X := fun _ => False) (Turned.of_below (X := fun _ => False) hb) hat'.sl.lt (fun _ _ e => e.elim)) (fun q _ e => e.elim) ⟨_, hat'.ct.ext hb⟩ (fun d hd2 => ?_)⟩
  rw [hd] at hd2
  cases hd2
end Go.Proofs.YteiaeaciaglmgaaGreat
namespace Go.Proofs.YteiaeaciaglmgaaGreat
open Go.RowKit
/-- while the children of a denial are made: W0: the world ahead; j: so many are made -/
structure KidS (R : EnvD) (E : EnvW) (b o : Nat) (W0 : World) (qm kb n : Nat) (l i : Int) (kids : List Den) (j : Nat) (W : World) : Prop where
 env : DnyS R W
 cm : Cell1 W qm (.pointer (some ⟨b, o, none⟩))
 slt : SlotT (fun q => q = R.ct ∨ q = E.bm) b o W0 W
 hdr : SlotC b o (.int .i64 l) (.int .i64 i) (.slice (some ⟨kb, 0, none⟩) n n) (.int .i64 0) W
 blk : ∀ k, k < n → Slot W kb (k * 4)
 kid : ∀ k, k < j → ∃ c0 c1 c2 c3, SlotC kb (k * 4) c0 c1 c2 c3 W ∧ DenS (fun q => kb < q ∧ q < W.heap.size) W [c0, c1, c2, c3] (denAt kids k)
 sz : kb < W.heap.size
/-- the numbers of such a call -/
structure KidN (R : EnvD) (E : EnvW) (b : Nat) (W0 : World) (qm kb : Nat) : Prop where
 n0 : b < W0.heap.size
 n1 : b ≠ R.ct
 n2 : b ≠ E.bm
 n3 : W0.heap.size ≤ qm
 n4 : qm < kb
 n5 : E.C ≤ W0.heap.size
theorem KidS.next {R : EnvD} (hR : R.Ok) {E : EnvW} (hG : EnvG R E) {b o : Nat} {W0 : World} {qm kb n : Nat} {l i : Int} {kids : List Den} {j p : Nat} {W W' : World} (hN : KidN R E b W0 qm kb) (h : KidS R E b o W0 qm kb n l i kids j W) (ht : SlotT (fun q => q = R.ct ∨ q = E.bm) kb (p * 4) W W') (hp : j ≤ p) : KidS R E b o W0 qm kb n l i kids j W' := by
 obtain ⟨n0, n1, n2, n3, n4, n5⟩ := hN
 have b1 := hR.b1
 have g1 := hG.1
 have g2 := hG.2
 have hz := ht.tu.size
 have hsz := h.sz
 have hbW : b < W.heap.size := by omega
 have hnb : ¬ ((b = R.ct ∨ b = E.bm) ∨ b = kb) := by omega
 refine ⟨h.env.turned hR ht.tu (fun q e => by omega), h.cm.turned ht.tu (by omega), ⟨h.slt.tu.transE ht.tu (fun q hq e => by omega), fun k hk => (ht.tu.cell (p := ⟨b, k, none⟩) hbW hnb).trans (h.slt.ot k hk), fun o' h' => (h.slt.sl o' h').turned ht.tu hnb⟩, h.hdr.turned ht.tu hbW hnb, fun k hk => ht.sl _ (h.blk k hk), fun k hk => ?_, by omega⟩
 obtain ⟨c0, c1, c2, c3, h1, h2⟩ := h.kid k hk
 exact ⟨c0, c1, c2, c3, h1.other ht (by omega), h2.turned ht.tu (fun q hq => ⟨hq.2, by omega⟩) (fun q hq => ⟨hq.1, by omega⟩)⟩
theorem KidS.turned {R : EnvD} (hR : R.Ok) {E : EnvW} (hG : EnvG R E) {b o : Nat} {W0 : World} {qm kb n : Nat} {l i : Int} {kids : List Den} {j : Nat} {W W' : World} (hN : KidN R E b W0 qm kb) (h : KidS R E b o W0 qm kb n l i kids j W) {X : Nat → Prop} (ht : Turned X W W') (hX : ∀ q, X q → q = R.ct ∨ q = E.bm) : KidS R E b o W0 qm kb n l i kids j W' :=
 h.next hR hG hN (SlotT.of (b := kb) (o := j * 4) ht h.sz (fun q _ e => ⟨hX q e, by have := hX q e; have := hN.n3; have := hN.n4; have := hN.n5; have := hR.b1; have := hG.1; have := hG.2; omega⟩)) (Nat.le_refl _)
theorem den_part (R : EnvD) (hR : R.Ok) (E : EnvW) (hE : DenE R E) : PartC E (denCl R hR E) := by
 intro m w part W t cy ct ci cf cl hso hk hkn hp hS hat hX hvf heach
 have hat' := hat hE.g
 obtain ⟨v, htk, hfr0⟩ := hvf
 have hse := settle_settled (f := E.f) (w := w) (part := part) (.inr ⟨hk, hkn, hp⟩)
 rw [hE.f] at hso hse hk hkn hp
 have hfr := hX t.b (.inr rfl)
 have hG := hE.g
 by_cases hks : 0 ≤ stuckI R.f R.zs w part
 ·exact den_leaf R hR E hE (m + 1) w part W t hso hse hS hat' hfr.1 _ _ _ hks
 ·have hmp := hS.mp
  have hn : E.n = R.f.senders.toNat := by unfold EnvW.n; rw [hE.f]
  rw [hn, hE.f] at hmp
  have b0 := hR.b0
  have b1 := hR.b1
  have b2 := hR.b2
  have g1 := hG.1
  have g2 := hG.2
  have hsz := hat'.env.sz
  have hszC := hS.sz
  have hB : R.B ≤ W.heap.size := by omega
  have hst := stuckI_eq (a := R.zs) hR.ck hso
  obtain ⟨N, hN⟩ : ∃ N, (lotAt R.f.lots w.length).ins.length = N := ⟨_, rfl⟩
  have hn50 : N ≤ 50000 := by rw [← hN]; exact ins_small hR.ck hk
  obtain ⟨n, hnn⟩ : ∃ n, part.length + n = N := ⟨N - part.length, by rw [hN] at hp; omega⟩
  have hfree : freeK part N = n := by
   have h3 := free_all hso.nodup N
   rw [List.filter_eq_self.2 (fun x hx => decide_eq_true (by rw [← hN]; exact hso.low x hx))] at h3
   omega
  obtain ⟨g, hg⟩ : ∃ g : Int → Option Den, g = fun i => denyN R.f R.zs m w (part ++ [i]) := ⟨_, rfl⟩
  have hdp := deny_part (a := R.zs) (n := m) hse hk hks
  rw [hN, ← hg] at hdp
  have hgi : ∀ i : Int, denyN R.f R.zs m w (part ++ [i]) = g i := fun i => by rw [hg]
  simp only [hgi] at hdp
  have hgs : ∀ i : Nat, i < N → hasB part (i : Int) = false → denyN R.f R.zs m (settleS E.f w (part ++ [(i : Int)])).1 (settleS E.f w (part ++ [(i : Int)])).2 = g (i : Int) := fun i hi hh => by
   rw [hE.f, hg]
   exact deny_settle (settle_twice hR.ck (hso.more hkn hp (by rw [hN]; exact hi) hh))
  have hkl := kidL_len g part N
  obtain ⟨kids, hkids⟩ : ∃ kids, kidL g part N = kids := ⟨_, rfl⟩
  rw [hkids, hfree] at hkl
  rw [hkids] at hdp
  obtain ⟨RB, hRB⟩ : ∃ b, eachB (fun (_ i : Nat) => (g (i : Int)).isSome) part N = b := ⟨_, rfl⟩
  rw [hRB] at hdp
  have hres : (denCl R hR E).res (m + 1) t w part = RB := by
   show (denyN R.f R.zs (m + 1) w part).isSome = RB
   rw [hdp]
   cases RB <;> rfl
  rw [hE.pf, hE.p1, hE.p2, hE.p3, hE.p4, hres]
  refine dengo_any R.C1 R.D1 R.B W R.cX R.cA R.ct R.cF R.q1 E.bm t.b t.o R.vl R.va R.f R.zs _ hat'.env.bX hat'.env.bA hat'.ct hat'.sl hat'.env.lots hR.ck hat'.env.ints hR.len hmp hB w.length part.length n _ _ _ _ _ _ _ RB (fun W' => WalkS E w part W' ∧ Turned (fun q => q = E.bm ∨ (denCl R hR E).X t q) W W' ∧ (denCl R hR E).Dn (m + 1) t w part W') (by rw [hst]; exact hks) hat'.env.bF hat'.env.flow hk (by rw [hN]; exact hnn) ?_
  intro W2 qm kb hq1 hq2 hq3 hst2 hsc hcm hck
  have hKN : KidN R E t.b W qm kb := ⟨hfr.2, hat'.ok.n1, hat'.ok.n2, hq1, hq2, hszC⟩
  have hwS2 : WalkS E w part W2 := hS.turned hE.ok hst2.tu (fun q e => by rcases e with e | e; exact e.elim; rw [e]; exact hfr.1)
  have hTX : Turned ((denCl R hR E).X t) W W2 := hst2.tu.mono (fun q _ e => by rcases e with e | e; exact e.elim; exact .inr e)
  have hb3 := hat'.ok.n3
  have hK0 : KidS R E t.b t.o W qm kb n (w.length : Int) (part.length : Int) kids 0 W2 :=
   ⟨hat'.env.turned hR hst2.tu (fun q e => by rcases e with e | e; exact e.elim; rcases hb3 with h | h; exact .inr (.inl (by omega)); exact .inr (.inr (by omega))), hcm, ⟨hst2.tu.mono (fun q _ e => by rcases e with e | e; exact e.elim; exact .inr e), hst2.ot, hst2.sl⟩, hsc, fun k hk => made_slot hck hk, fun k hk => by omega, hq3⟩
  have hct2 : Cell1 W2 R.ct (.pointer (some ⟨t.b, t.o, none⟩)) := hat'.ct.turned hst2.tu (fun e => by rcases e with e | e; exact e; exact hat'.ok.n1 e.symm)
  refine (heach W2 32 (.pointer (some ⟨qm, 0, none⟩)) (.pointer (some ⟨R.ct, 0, none⟩))
   (fun j W' => KidS R E t.b t.o W qm kb n (w.length : Int) (part.length : Int) kids j W' ∧ ∃ v, Cell1 W' R.ct v)
   (fun j W' => j < n ∧ KidS R E t.b t.o W qm kb n (w.length : Int) (part.length : Int) kids j W' ∧ Cell1 W' R.ct (.pointer (some ⟨kb, j * 4, none⟩)))
   (fun j => (⟨kb, j * 4, fun W' => KidS R E t.b t.o W qm kb n (w.length : Int) (part.length : Int) kids j W', fun hG W' W'' h _ ht => h.next hR hG hKN ht (Nat.le_refl _)⟩ : TkD R E))
   (fun W' => (∃ j, KidS R E t.b t.o W qm kb n (w.length : Int) (part.length : Int) kids j W') ∧ ∃ v, Cell1 W' R.ct v)
   (.inl rfl) hwS2 (by omega) ⟨W, rfl, hTX, v, htk, hfr0⟩ ⟨hK0, _, hct2⟩
   (fun j W' W'' a ht => ⟨a.1.turned hR hG hKN ht (fun q e => .inr e), by obtain ⟨u, a2⟩ := a.2; exact ⟨u, a2.turned ht (by omega)⟩⟩)
   (fun j W' W'' a ht => ⟨a.1, a.2.1.turned hR hG hKN ht (fun q e => .inr e), a.2.2.turned ht (by omega)⟩)
   (fun W' W'' a ht => ⟨by obtain ⟨j, a1⟩ := a.1; exact ⟨j, a1.turned hR hG hKN ht (fun q e => .inr e)⟩, by obtain ⟨u, a2⟩ := a.2; exact ⟨u, a2.turned ht (by omega)⟩⟩)
   ?_ (fun j W' a _ => ⟨a.2.1.env, a.2.2, a.2.1.blk j a.1, a.2.1, ⟨by show kb ≠ R.ct; omega, by show kb ≠ E.bm; omega, .inr (by show R.top ≤ kb; omega)⟩⟩) (fun j q e => by
    rcases e with e | e
    ·exact .inl e
    ·have e : q = kb := e
     exact .inr (by omega)) ?_).mono ?_
  ·intro j hj W3 a hw3 hs3
   have hj : j < n := by rw [hE.f, hN, hfree] at hj; exact hj
   obtain ⟨a1, u, a2⟩ := a
   refine (denready_any W3 qm R.ct t.b t.o kb 0 n n u j a1.cm a1.hdr.c2 a2 hj).mono ?_
   rintro e W4 ⟨he, y1, y2⟩
   rw [Nat.zero_add] at y1
   exact ⟨he, ⟨hj, a1.turned hR hG hKN y2 (fun q e => .inl e), y1⟩, y2⟩
  ·intro j i W3 W4 hi hh hfj a ht hdn
   rw [hE.f, hN] at hi
   have hdn' := hdn hG
   rw [hgs i hi hh] at hdn'
   have hK4 : KidS R E t.b t.o W qm kb n (w.length : Int) (part.length : Int) kids j W4 := hdn'.oth
   refine ⟨fun hr => ⟨⟨hK4.env, hK4.cm, hK4.slt, hK4.hdr, hK4.blk, fun k hk => ?_, hK4.sz⟩, hdn'.ct⟩, fun _ => ⟨⟨j, hK4⟩, hdn'.ct⟩⟩
   by_cases e : k < j
   ·exact hK4.kid k e
   ·obtain rfl : k = j := by omega
    have hr : (denyN R.f R.zs m (settleS E.f w (part ++ [(i : Int)])).1 (settleS E.f w (part ++ [(i : Int)])).2).isSome = true := hr
    rw [hgs i hi hh] at hr
    obtain ⟨d, hd⟩ := Option.isSome_iff_exists.1 hr
    obtain ⟨c0, c1, c2, c3, z1, z2⟩ := hdn'.den d hd
    have hka := kidL_at (g := g) hh hi
    rw [hkids, hfj, hd] at hka
    refine ⟨c0, c1, c2, c3, z1, ?_⟩
    rw [hka]
    exact DenS.mono z2 (fun q hq => ⟨hq.1, hq.2.2⟩)
  ·rintro e W' ⟨he, y1, y2, y3⟩
   have hRE : eachB (fun (j i : Nat) => (denyN R.f R.zs m (settleS E.f w (part ++ [(i : Int)])).1 (settleS E.f w (part ++ [(i : Int)])).2).isSome) part (lotAt E.f.lots w.length).ins.length = RB := by
    rw [← hRB, hE.f, hN]
    exact each_congr (fun i hi hh => by have h := hgs i hi hh; rw [hE.f] at h; rw [h])
   have he : e = .returned (.bool (eachB (fun (j i : Nat) => (denyN R.f R.zs m (settleS E.f w (part ++ [(i : Int)])).1 (settleS E.f w (part ++ [(i : Int)])).2).isSome) part (lotAt E.f.lots w.length).ins.length)) := he
   have y3 : SZ (eachB (fun (j i : Nat) => (denyN R.f R.zs m (settleS E.f w (part ++ [(i : Int)])).1 (settleS E.f w (part ++ [(i : Int)])).2).isSome) part (lotAt E.f.lots w.length).ins.length) _ _ W' := y3
   rw [hRE] at he y3
   have hKJ : ∃ j, KidS R E t.b t.o W qm kb n (w.length : Int) (part.length : Int) kids j W' ∧ (RB = true → j = n) ∧ ∃ v, Cell1 W' R.ct v := by
    cases RB with
    | false => obtain ⟨⟨j, k1⟩, k2⟩ := y3.2 rfl; exact ⟨j, k1, (fun e => by cases e), k2⟩
    | true => obtain ⟨k1, k2⟩ := y3.1 rfl; rw [hE.f, hN, hfree] at k1; exact ⟨n, k1, (fun _ => rfl), k2⟩
   obtain ⟨j, k1, k2, k3⟩ := hKJ
   refine ⟨he, y1, (hTX.mono (fun q _ e => .inr e) : Turned (fun q => q = E.bm ∨ (denCl R hR E).X t q) W W2).transE y2 (fun q hq e => ?_), fun hG => hat'.done hR hG k1.slt (fun q _ e => e) k3 (fun d hd => ?_)⟩
   ·rcases e with e | e | e
    ·exact .inl e
    ·exact .inr (.inl e)
    ·omega
   ·rw [hdp] at hd
    cases RB with
    | false => cases hd
    | true =>
     rw [if_pos rfl] at hd
     cases hd
     obtain rfl := k2 rfl
     obtain ⟨F, hF⟩ := Go.Deep.choose_lt (α := List Value) (p := fun k c => ∃ c0 c1 c2 c3, c = [c0, c1, c2, c3] ∧ SlotC kb (k * 4) c0 c1 c2 c3 W' ∧ DenS (fun q => kb < q ∧ q < W'.heap.size) W' [c0, c1, c2, c3] (denAt kids k)) (fun k hk => by
      obtain ⟨c0, c1, c2, c3, z1, z2⟩ := k1.kid k hk
      exact ⟨_, c0, c1, c2, c3, rfl, z1, z2⟩)
     have hwl : w.length ≤ 2000 := by have := (checkE_ok hR.ck).2.2.1; omega
     refine ⟨_, _, _, _, k1.hdr, .mk _ _ 0 kids _ kb 0 j F ⟨some ⟨kb, 0, none⟩, by rw [hkl], by omega, by omega, .inl rfl⟩ (by unfold LK; omega) (by unfold I64; omega) (by unfold I64; omega) (by unfold I64; omega) (fun k hk => ⟨⟨by omega, by omega, k1.sz⟩, fun q u hq => ?_⟩) (fun k hk => ?_)⟩
     ·obtain ⟨c0, c1, c2, c3, z0, z1, z2⟩ := hF k (by omega)
      rw [z0] at hq
      have := z1.list q u hq
      rw [Nat.zero_add]
      exact this
     ·obtain ⟨c0, c1, c2, c3, z0, z1, z2⟩ := hF k (by omega)
      rw [z0]
      exact DenS.mono z2 (fun q hq => ⟨by have := hfr.2; omega, by omega, hq.2⟩)
end Go.Proofs.YteiaeaciaglmgaaGreat
namespace Go.Proofs.YteiaeaciaglmgaaGreat
open Go.RowKit
/-- walk, called by Deny -/
theorem den_walk (R : EnvD) (hR : R.Ok) (w : World) (h : DnyS R w) (hct : Cell1 w R.ct (.pointer (some ⟨R.cp, 0, none⟩))) (hsl : Slot w R.cp 0) (htop : R.top = w.heap.size) (hf : IsFlow R.B w (.int .i64 R.f.senders) R.vl R.f) :
  Calls Tryz.prog 29 #[.agg #[.int .i64 R.f.senders, R.vl], .func (.func 30) #[] #[.pointer (some ⟨R.cX, 0, none⟩), .pointer (some ⟨R.cA, 0, none⟩), .pointer (some ⟨R.ct, 0, none⟩), .pointer (some ⟨R.cF, 0, none⟩)]] w fun e W' =>
   e = .returned (.bool (denyN R.f R.zs (undM R.f R.f.lots.length) [] []).isSome) ∧ (Turned (fun q => q = R.ct ∨ q = R.cp) w W' ∧ Slot W' R.cp 0 ∧ ∀ d, denyN R.f R.zs (undM R.f R.f.lots.length) [] [] = some d → ∃ c0 c1 c2 c3, SlotC R.cp 0 c0 c1 c2 c3 W' ∧ DenS (fun q => w.heap.size ≤ q ∧ q < W'.heap.size) W' [c0, c1, c2, c3] d) := by
 have b0 := hR.b0
 have b1 := hR.b1
 have b2 := hR.b2
 have hse := deny_settle (a := R.zs) (n := undM R.f R.f.lots.length) (settle_twice hR.ck (StOk.start R.f))
 refine walk_any R.B w _ R.vl R.f hf (by omega) hR.ck _ _ _ _ _ (.inl rfl) (fun E => denCl R hR E) (fun E => (⟨R.cp, 0, fun _ => True, fun _ _ _ _ _ _ => trivial⟩ : TkD R E)) _ (fun W' => Turned (fun q => q = R.ct ∨ q = R.cp) w W' ∧ Slot W' R.cp 0 ∧ ∀ d, denyN R.f R.zs (undM R.f R.f.lots.length) [] [] = some d → ∃ c0 c1 c2 c3, SlotC R.cp 0 c0 c1 c2 c3 W' ∧ DenS (fun q => w.heap.size ≤ q ∧ q < W'.heap.size) W' [c0, c1, c2, c3] d) ?_
 intro E W hE hEB hEf hEvl hEpf h1 h2 h3 h4 hcp hb
 have hG : EnvG R E := ⟨by have := hE.o2; have := hE.o3; have := hE.x3; omega, hE.x3.2⟩
 have hDE : DenE R E := ⟨hE, hEB, hEf, hEpf, h1, h2, h3, h4, hG⟩
 have hs : DnyS R W := h.turned hR (Turned.of_below (X := fun _ => False) hb) (fun _ e => e.elim)
 have hbm : w.heap.size ≤ E.bm := by have := hG.1; omega
 refine ⟨den_end R hR E hDE, den_part R hR E hDE, fun t q e => .inl e, fun _ => ⟨hs, hct.ext hb, hsl.turned (Turned.of_below (X := fun _ => False) hb) (fun e => e), trivial, ⟨hR.np.2.2.2, by show R.cp ≠ E.bm; omega, .inl rfl⟩⟩, fun q e => ?_, ?_, fun W' ht hdn => ?_⟩
 ·rcases e with e | e
  ·omega
  ·have e : q = R.cp := e
   omega
 ·show (denyN R.f R.zs _ _ _).isSome = _
  rw [hse]
 ·have hd := hdn hG
  refine ⟨(Turned.of_below hb).transE ht (fun q hq e => ?_), hd.sl, fun d hdd => ?_⟩
  ·rcases e with e | e | e
   ·omega
   ·exact .inl e
   ·exact .inr e
  ·obtain ⟨c0, c1, c2, c3, y1, y2⟩ := hd.den d (hse.trans hdd)
   exact ⟨c0, c1, c2, c3, y1, DenS.mono y2 (fun q hq => ⟨by have := hG.2; have := hq.2.1; omega, hq.2.2⟩)⟩
set_option maxHeartbeats 8000000 in
set_option maxRecDepth 100000 in
/-- explain.Deny -/
theorem edeny_any (B : Nat) (w : World) (vs vl va : Value) (f : Flow) (zs : List Int) (hf : IsFlow B w vs vl f) (hz : IsInts B w va zs) (hB : B ≤ w.heap.size) :
  Calls Tryz.prog 9 #[.agg #[vs, vl], va] w fun e w' => ∃ c0 c1 c2 c3, e = .returned (.tuple #[.agg #[c0, c1, c2, c3], .bool (denyB f zs), .int .i64 (errX f zs)]) ∧ DenS (fun q => w.heap.size ≤ q ∧ q < w'.heap.size) w' [c0, c1, c2, c3] (denyR f zs) ∧ Below w.heap.size w w' := by
 have HF := Lib.hid hf
 have HZ := Lib.hid hz
 have hmf := @run_makeFunc_any Tryz.prog
 obtain ⟨rfl, ⟨hs1, hs2⟩, hl'⟩ := hf
 obtain ⟨b, off, cap, ⟨a, rfl, hcap, hmax, ha⟩, hlen, hc⟩ := hl'
 obtain ⟨az, cz, rfl⟩ := hz.form
 obtain ⟨nz, hnz⟩ : ∃ x, zs.length = x := ⟨_, rfl⟩
 rw [hnz] at HZ ⊢
 obtain ⟨ER, hER⟩ : ∃ x, errX f zs = x := ⟨_, rfl⟩
 have HER := Lib.hid hER
 obtain ⟨DB, hDB⟩ : ∃ x, denyB f zs = x := ⟨_, rfl⟩
 have HDB := Lib.hid hDB
 obtain ⟨DR, hDR⟩ : ∃ x, denyR f zs = x := ⟨_, rfl⟩
 have HDR := Lib.hid hDR
 rw [hER, hDB, hDR]
 clear hz ha hc hER hDB hDR hnz
 go_enter Tryz.func9, Tryz.ntmps9
 go_upto_region 1 with fail
 refine wp_name (fun W1 hW1 => ?_)
 have HX1 : Hid (Box W1 w.heap.size #[.int .i64 f.senders, .slice a f.lots.length cap]) := Lib.hid (by rw [hW1]; exact ((Box.new w #[.int .i64 f.senders, .slice a f.lots.length cap] 24).alloc _).alloc _)
 have HA1 : Hid (Cell1 W1 (w.heap.size + 1) (.slice az nz cz)) := Lib.hid (by
  rw [hW1]
  have h := Cell1.new (w.alloc (.cells #[.int .i64 f.senders, .slice a f.lots.length cap] 24)) (.slice az nz cz) 25
  rw [World.size_alloc] at h
  exact h.alloc _)
 have HR1 : Hid (CellsN W1 (w.heap.size + 1 + 1) #[.int .i64 0, .int .i64 0, .slice none 0 0, .int .i64 0]) := Lib.hid (by
  rw [hW1]
  have h := CellsN.new ((w.alloc (.cells #[.int .i64 f.senders, .slice a f.lots.length cap] 24)).alloc (.cells #[.slice az nz cz] 25)) #[.int .i64 0, .int .i64 0, .slice none 0 0, .int .i64 0] 30
  simp only [World.size_alloc] at h
  exact h)
 have HW1 : Hid (Below w.heap.size w W1) := Lib.hid (by rw [hW1]; exact ((box_below' w _).trans ((box_below' _ _).mono (by simp))).trans ((box_below' _ _).mono (by simp; omega)))
 clear hW1
 have r1 := HX1.out.2
 have r2 := HA1.out.cell
 have HCH := Lib.hid (echeck_any B W1 _ _ _ f zs (HF.out.below HW1.out hB) (HZ.out.below HW1.out hB) (Nat.le_trans hB HW1.out.size))
 rw [HER.out] at HCH
 go_wp2_with fail
 refine HCH.out.mono ?_
 rintro e W2 ⟨rfl, hb2⟩
 have HB2 := Lib.hid hb2
 clear hb2
 have HX2 := Lib.hid (HX1.out.ext HB2.out)
 have HA2 := Lib.hid (HA1.out.ext HB2.out)
 have HR2 := Lib.hid (HR1.out.ext HB2.out)
 have HW2 : Hid (Below w.heap.size w W2) := Lib.hid (HW1.out.trans (HB2.out.mono HW1.out.size))
 clear r1 r2
 by_cases he : ER = 0
 ·have he1 : (ER != 0) = false := by simpa using he
  have hck0 : errX f zs = 0 := by rw [HER.out]; exact he
  obtain ⟨hc, hwy, hal⟩ := errX_ok hck0
  have HC := Lib.hid hc
  have HAL := Lib.hid hal
  have HNL := Lib.hid (newLots_any B W2 _ _ f (HF.out.below HW2.out hB) (Nat.le_trans hB HW2.out.size) hc)
  have HEZ := Lib.hid he
  have HDE : Hid (denyN f zs (undM f f.lots.length) [] [] = denyO f zs) := Lib.hid (by unfold denyO; rw [if_pos hck0])
  have x2 := HX2.out.2
  clear he hal hc hwy hck0
  go_upto_region 5 with (go_at_call 24; refine HNL.out.mono ?_; rintro e W3 ⟨q0, rfl, hlots, hb3⟩; have HLO := Lib.hid hlots; have HB23 := Lib.hid hb3; clear hlots hb3)
  clear x2
  go_upto_region 6 with fail
  refine wp_name (fun W5 hW5 => ?_)
  have HB35 : Hid (Below W3.heap.size W3 W5) := Lib.hid (by rw [hW5]; exact (box_below' W3 _).alloc (by simp) _)
  have HCX : Hid (Cell1 W5 W3.heap.size (.pointer (some ⟨q0, 0, none⟩))) := Lib.hid (by rw [hW5]; exact (Cell1.new W3 _ _).alloc _)
  have HCT : Hid (Cell1 W5 (W3.heap.size + 1) (.pointer (some ⟨w.heap.size + 1 + 1, 0, none⟩))) := Lib.hid (by
   rw [hW5]
   have h := Cell1.new (W3.alloc (.cells #[.pointer (some ⟨q0, 0, none⟩)] 55)) (.pointer (some ⟨w.heap.size + 1 + 1, 0, none⟩)) 68
   rw [World.size_alloc] at h
   exact h)
  have HZ5 : Hid (W5.heap.size = W3.heap.size + 1 + 1) := Lib.hid (by rw [hW5]; simp)
  clear hW5
  have HB25 : Hid (Below W2.heap.size W2 W5) := Lib.hid (HB23.out.trans (HB35.out.mono HB23.out.size))
  have HW5 : Hid (Below w.heap.size w W5) := Lib.hid (HW2.out.trans (HB25.out.mono HW2.out.size))
  have HX5 := Lib.hid (HX2.out.ext HB25.out)
  have HR5 := Lib.hid (HR2.out.ext HB25.out)
  have x5 := HX5.out.2
  have hz5 := HZ5.out
  have hs23 := HB23.out.size
  have hltA := HR2.out.lt
  have HWK := Lib.hid (den_walk ⟨B, W2.heap.size, W3.heap.size, q0, w.heap.size + 1 + 1, W3.heap.size + 1, w.heap.size, W3.heap.size, w.heap.size + 1, W5.heap.size, .slice a f.lots.length cap, .slice az nz cz, f, zs⟩
   ⟨⟨by show B ≤ w.heap.size + 1 + 1; omega, by show w.heap.size + 1 + 1 < W5.heap.size; omega⟩, ⟨by show B ≤ W3.heap.size + 1; omega, by show W3.heap.size + 1 < W5.heap.size; omega⟩, ⟨by show B ≤ W5.heap.size; omega, by show W3.heap.size ≤ W5.heap.size; omega⟩, ⟨by show w.heap.size < W5.heap.size; omega, by show W3.heap.size < W5.heap.size; omega, by show w.heap.size + 1 < W5.heap.size; omega⟩,
    ⟨by show W3.heap.size + 1 ≠ w.heap.size; omega, by show W3.heap.size + 1 ≠ W3.heap.size; omega, by show W3.heap.size + 1 ≠ w.heap.size + 1; omega⟩, ⟨by show w.heap.size + 1 + 1 ≠ w.heap.size; omega, by show w.heap.size + 1 + 1 ≠ W3.heap.size; omega, by show w.heap.size + 1 + 1 ≠ w.heap.size + 1; omega, by show w.heap.size + 1 + 1 ≠ W3.heap.size + 1; omega⟩, .inr (by show W3.heap.size ≤ W3.heap.size + 1; omega), .inl (by show w.heap.size + 1 + 1 < W2.heap.size; omega), HC.out, HAL.out⟩
   W5 ⟨HX5.out, HCX.out, HA2.out.ext HB25.out, HLO.out.ext HB35.out, (HF.out.below HW5.out hB).2.2, HZ.out.below HW5.out hB, Nat.le_refl _⟩
   HCT.out ⟨_, HR5.out, by decide⟩ rfl (HF.out.below HW5.out hB))
  have HWK2 : Hid (Calls Tryz.prog 29 #[.agg #[.int .i64 f.senders, .slice a f.lots.length cap], .func (.func 30) #[] #[.pointer (some ⟨W3.heap.size, 0, none⟩), .pointer (some ⟨w.heap.size + 1, 0, none⟩), .pointer (some ⟨W3.heap.size + 1, 0, none⟩), .pointer (some ⟨w.heap.size, 0, none⟩)]] W5 fun e W' =>
   e = .returned (.bool DB) ∧ (Turned (fun q => q = W3.heap.size + 1 ∨ q = w.heap.size + 1 + 1) W5 W' ∧ Slot W' (w.heap.size + 1 + 1) 0 ∧ ∀ d, denyO f zs = some d → ∃ c0 c1 c2 c3, SlotC (w.heap.size + 1 + 1) 0 c0 c1 c2 c3 W' ∧ DenS (fun q => W5.heap.size ≤ q ∧ q < W'.heap.size) W' [c0, c1, c2, c3] d)) := Lib.hid (by
    have h := HWK.out
    simp only [HDE.out] at h
    have e : (denyO f zs).isSome = DB := HDB.out
    rw [e] at h
    exact h)
  have HNU : Hid (w.heap.size ≤ W3.heap.size ∧ w.heap.size + 1 + 1 < W5.heap.size) := Lib.hid (by omega)
  clear hz5 hs23 hltA HWK
  go_upto_region 7 with (go_at_call 29; refine HWK2.out.mono ?_; rintro e W6 ⟨rfl, ht6⟩; have HT6 := Lib.hid ht6; clear ht6)
  clear x5
  have HB6 : Hid (Below w.heap.size w W6) := Lib.hid (HW5.out.trans (HT6.out.1.below HW5.out.size (fun k hk e => by have := HNU.out; omega)))
  have HSL := Lib.hid HT6.out.2.1
  have f0 := HSL.out.free 0
  have f1 := HSL.out.free 1
  have f2 := HSL.out.free 2
  have f3 := HSL.out.free 3
  cases DB
  ·have HDN : Hid (DR = noD) := Lib.hid (by
    have e : (denyO f zs).isSome = false := HDB.out
    rw [← HDR.out]
    unfold denyR
    rw [Option.isSome_eq_false_iff, Option.isNone_iff_eq_none] at e
    rw [e]
    rfl)
   obtain ⟨z0, z1, z2, z3, n0, n1, n2, n3⟩ := HSL.out.cells
   simp only [Nat.zero_add] at n1 n2 n3
   obtain ⟨hst, hsc⟩ := slot_set HSL.out (Below.refl _ _) (.int .i64 0) (.int .i64 0) (.slice none 0 0) (.int .i64 0)
   simp only [Nat.zero_add] at hst hsc
   have HST := Lib.hid hst
   have u0 := hsc.c0
   have u1 := hsc.c1
   have u2 := hsc.c2
   have u3 := hsc.c3
   simp only [Nat.zero_add] at u1 u2 u3
   clear hst hsc
   go_wp2
   exact bodyPost_ret (v := .tuple #[.agg #[.int .i64 0, .int .i64 0, .slice none 0 0, .int .i64 0], .bool false, .int .i64 0]) (by simp [results, Tryz.results9, go_sem, u0, u1, u2, u3]) rfl ⟨_, _, _, _, by rw [HEZ.out], by rw [HDN.out]; exact DenS.zero _ _, HB6.out.trans (HST.out.tu.below HB6.out.size (fun k hk e => by rcases e with e | e; exact e; omega))⟩
  ·have e : (denyO f zs).isSome = true := HDB.out
   obtain ⟨d, hd⟩ := Option.isSome_iff_exists.1 e
   have HDD : Hid (DR = d) := Lib.hid (by
    rw [← HDR.out]
    unfold denyR
    rw [hd]
    rfl)
   obtain ⟨c0, c1, c2, c3, hsc0, hds⟩ := HT6.out.2.2 d hd
   obtain ⟨l0, l1, ak, nk, ck, l3, rfl, rfl, rfl, rfl⟩ := hds.form6
   have HDS := Lib.hid hds
   have n0 := hsc0.c0
   have n1 := hsc0.c1
   have n2 := hsc0.c2
   have n3 := hsc0.c3
   simp only [Nat.zero_add] at n1 n2 n3
   obtain ⟨hst, hsc⟩ := slot_set HSL.out (Below.refl _ _) (.int .i64 l0) (.int .i64 l1) (.slice ak nk ck) (.int .i64 l3)
   simp only [Nat.zero_add] at hst hsc
   have HST := Lib.hid hst
   have u0 := hsc.c0
   have u1 := hsc.c1
   have u2 := hsc.c2
   have u3 := hsc.c3
   simp only [Nat.zero_add] at u1 u2 u3
   clear hst hsc e hd hds hsc0
   go_wp2
   exact bodyPost_ret (v := .tuple #[.agg #[.int .i64 l0, .int .i64 l1, .slice ak nk ck, .int .i64 l3], .bool true, .int .i64 0]) (by simp [results, Tryz.results9, go_sem, u0, u1, u2, u3]) rfl ⟨_, _, _, _, by rw [HEZ.out], by
    rw [HDD.out]
    exact HDS.out.turned HST.out.tu (fun q hq => ⟨hq.2, fun e => by rcases e with e | e; exact e; have := HNU.out; omega⟩) (fun q hq => ⟨by have := HNU.out; omega, by have := HST.out.tu.size; omega⟩), HB6.out.trans (HST.out.tu.below HB6.out.size (fun k hk e => by rcases e with e | e; exact e; omega))⟩
 ·have he1 : (ER != 0) = true := by simpa using he
  have hne : errX f zs ≠ 0 := by rw [HER.out]; exact he
  have HDN : Hid (DR = noD ∧ DB = false) := Lib.hid (by
   rw [← HDR.out, ← HDB.out]
   unfold denyR denyB denyO
   rw [if_neg hne]
   exact ⟨rfl, rfl⟩)
  have HSL : Hid (Slot W2 (w.heap.size + 1 + 1) 0) := Lib.hid ⟨_, HR2.out, by decide⟩
  have f0 := HSL.out.free 0
  have f1 := HSL.out.free 1
  have f2 := HSL.out.free 2
  have f3 := HSL.out.free 3
  have n0 := HR2.out.cell 0
  have n1 := HR2.out.cell 1
  have n2 := HR2.out.cell 2
  have n3 := HR2.out.cell 3
  simp at n0 n1 n2 n3
  obtain ⟨hst, hsc⟩ := slot_set HSL.out (Below.refl _ _) (.int .i64 0) (.int .i64 0) (.slice none 0 0) (.int .i64 0)
  simp only [Nat.zero_add] at hst hsc
  have HST := Lib.hid hst
  have u0 := hsc.c0
  have u1 := hsc.c1
  have u2 := hsc.c2
  have u3 := hsc.c3
  simp only [Nat.zero_add] at u1 u2 u3
  clear hst hsc he hne
  go_wp2
  exact bodyPost_ret (v := .tuple #[.agg #[.int .i64 0, .int .i64 0, .slice none 0 0, .int .i64 0], .bool false, .int .i64 ER]) (by simp [results, Tryz.results9, go_sem, u0, u1, u2, u3]) rfl ⟨_, _, _, _, by rw [HDN.out.2], by rw [HDN.out.1]; exact DenS.zero _ _, HW2.out.trans (HST.out.tu.below HW2.out.size (fun k hk e => by rcases e with e | e; exact e; omega))⟩
end Go.Proofs.YteiaeaciaglmgaaGreat
namespace Go.Proofs.YteiaeaciaglmgaaGreat
open Go.RowKit
def s2 : Flow := ⟨2, [⟨[0, 1], false, []⟩]⟩
def s0 : Flow := ⟨0, []⟩
def s1 : Flow := ⟨1, []⟩
def sN : Flow := ⟨-1, []⟩
def wantD : Den := .mk 0 0 [.mk 0 1 [.mk (-1) 0 [] 1] 0, .mk (-1) 0 [] 0] 0
theorem s2_make : errX s2 [3, 2] = 0 ∧ makeB s2 [3, 2] = true ∧ makeR s2 [3, 2] = [[1, 0]] := by decide +kernel
theorem s2_right : rightW s2 [3, 2] [[1, 0]] = true ∧ rightW s2 [3, 2] [[0, 1]] = false := by decide +kernel
theorem s2_deny : denyB s2 [3, 2] = false ∧ denyB s2 [2, 2] = true ∧ errX s2 [2, 2] = 0 := by decide +kernel
theorem s2_den : denyR s2 [2, 2] = wantD := by kernel_rfl
theorem s2_ref : refutesB s2 [2, 2] wantD = true ∧ refutesB s2 [2, 2] noD = false := by decide +kernel
theorem s0_make : errX s0 [] = 0 ∧ makeB s0 [] = true ∧ makeR s0 [] = [] := by decide +kernel
theorem s1_make : errX s1 [1] = 0 ∧ makeB s1 [1] = false ∧ denyB s1 [1] = true := by decide +kernel
theorem s1_den : denyR s1 [1] = leafD 0 := by kernel_rfl
theorem s2_short : errX s2 [3] = 1 := by decide +kernel
theorem sN_err : errX sN [] = 250 := by decide +kernel
set_option maxHeartbeats 4000000 in
set_option maxRecDepth 100000 in
/-- two -/
theorem two29_any (w : World) : Calls Tryz.prog 10 #[] w fun e w' => ∃ a, e = .returned (.agg #[.int .i64 2, .slice a 1 1]) ∧ IsFlow w'.heap.size w' (.int .i64 2) (.slice a 1 1) s2 ∧ Below w.heap.size w w' := by
 go_enter Tryz.func10, Tryz.ntmps10
 go_wp2
 have HX : Box ((w.alloc (.cells #[.int .i64 2, .slice (some ⟨w.heap.size + 1 + 1, 0, none⟩) 1 1] 24)).alloc (.cells #[.int .i64 0, .int .i64 1] 3) |>.alloc (.cells #[.slice (some ⟨w.heap.size + 1, 0, none⟩) 2 2, .bool false, .slice none 0 0] 64)) w.heap.size #[.int .i64 2, .slice (some ⟨w.heap.size + 1 + 1, 0, none⟩) 1 1] := ((Box.new w _ _).alloc _).alloc _
 have u0 := HX.2 0
 have u1 := HX.2 1
 simp at u0 u1
 have HI : Box ((w.alloc (.cells #[.int .i64 2, .slice (some ⟨w.heap.size + 1 + 1, 0, none⟩) 1 1] 24)).alloc (.cells #[.int .i64 0, .int .i64 1] 3) |>.alloc (.cells #[.slice (some ⟨w.heap.size + 1, 0, none⟩) 2 2, .bool false, .slice none 0 0] 64)) (w.heap.size + 1) #[.int .i64 0, .int .i64 1] := by
  have h := Box.new (w.alloc (.cells #[.int .i64 2, .slice (some ⟨w.heap.size + 1 + 1, 0, none⟩) 1 1] 24)) #[.int .i64 0, .int .i64 1] 3
  rw [World.size_alloc] at h
  exact h.alloc _
 have HL : Box ((w.alloc (.cells #[.int .i64 2, .slice (some ⟨w.heap.size + 1 + 1, 0, none⟩) 1 1] 24)).alloc (.cells #[.int .i64 0, .int .i64 1] 3) |>.alloc (.cells #[.slice (some ⟨w.heap.size + 1, 0, none⟩) 2 2, .bool false, .slice none 0 0] 64)) (w.heap.size + 1 + 1) #[.slice (some ⟨w.heap.size + 1, 0, none⟩) 2 2, .bool false, .slice none 0 0] := by
  have h := Box.new ((w.alloc (.cells #[.int .i64 2, .slice (some ⟨w.heap.size + 1 + 1, 0, none⟩) 1 1] 24)).alloc (.cells #[.int .i64 0, .int .i64 1] 3)) #[.slice (some ⟨w.heap.size + 1, 0, none⟩) 2 2, .bool false, .slice none 0 0] 64
  simp only [World.size_alloc] at h
  exact h
 exact bodyPost_ret (v := .agg #[.int .i64 2, .slice (some ⟨w.heap.size + 1 + 1, 0, none⟩) 1 1]) (by simp [results, Tryz.results10, go_sem, u0, u1]) rfl ⟨_, rfl, ⟨rfl, by simp [s2, I64], oneLot HL (by simp) (litInts rfl (by decide) (by omega) (by simp [I64]) (by simp) HI) noInts⟩, ((box_below' w _).trans ((box_below' _ _).mono (by simp))).trans ((box_below' _ _).mono (by simp; omega))⟩
end Go.Proofs.YteiaeaciaglmgaaGreat
namespace Go.Proofs.YteiaeaciaglmgaaGreat
open Go.RowKit
def TwoF (b : Bool) (x : Value) (w : World) : Prop := b = true → ∃ a, x = .agg #[.int .i64 2, .slice a 1 1] ∧ IsFlow w.heap.size w (.int .i64 2) (.slice a 1 1) s2
def TwoI (b : Bool) (x : Value) (w : World) : Prop := b = true → ∃ a, x = .slice a 2 2 ∧ IsInts w.heap.size w (.slice a 2 2) [2, 2]
theorem TwoF.ext {b : Bool} {x : Value} {w w' : World} (h : TwoF b x w) (hb : Below w.heap.size w w') : TwoF b x w' := fun e => by
 obtain ⟨a, h1, h2⟩ := h e
 exact ⟨a, h1, (h2.below hb (Nat.le_refl _)).mono hb.size⟩
theorem TwoI.ext {b : Bool} {x : Value} {w w' : World} (h : TwoI b x w) (hb : Below w.heap.size w w') : TwoI b x w' := fun e => by
 obtain ⟨a, h1, h2⟩ := h e
 exact ⟨a, h1, (h2.below hb (Nat.le_refl _)).mono hb.size⟩
/-- one world behind the other -/
theorem bt {a b c : World} (h : Below a.heap.size a b) (k : Below b.heap.size b c) : Below a.heap.size a c := h.trans (k.mono h.size)
theorem IsDen.leaf1 (B : Nat) (w : World) {i : Int} (hi : I64 i) : IsDen B w [.int .i64 (-1), .int .i64 0, .slice none 0 0, .int .i64 i] (.mk (-1) 0 [] i) := DenS.leaf _ _ hi
theorem wantD_lit {B k1 k2 : Nat} {w : World} (h1 : Box w k1 #[.int .i64 (-1), .int .i64 0, .slice none 0 0, .int .i64 1]) (h2 : Box w k2 #[.int .i64 0, .int .i64 1, .slice (some ⟨k1, 0, none⟩) 1 1, .int .i64 0, .int .i64 (-1), .int .i64 0, .slice none 0 0, .int .i64 0]) (hk1 : k1 < B) (hk2 : k2 < B) :
  IsDen B w [.int .i64 0, .int .i64 0, .slice (some ⟨k2, 0, none⟩) 2 2, .int .i64 0] wantD := by
 refine .mk 0 0 0 _ _ k2 0 2 (fun j => if j = 0 then [.int .i64 0, .int .i64 1, .slice (some ⟨k1, 0, none⟩) 1 1, .int .i64 0] else [.int .i64 (-1), .int .i64 0, .slice none 0 0, .int .i64 0]) ⟨_, rfl, by simp, by omega, .inl rfl⟩ (by unfold LK; simp) (by unfold I64; omega) (by unfold I64; omega) (by unfold I64; omega) (fun j hj => ⟨hk2, fun q u hq => ?_⟩) (fun j hj => ?_)
 ·have hj : j < 2 := hj
  rw [h2.2]
  by_cases e : j = 0
  ·subst e
   rw [if_pos rfl] at hq
   have hq4 : q < 4 := by have := (List.getElem?_eq_some_iff.1 hq).1; simpa using this
   rcases (show q = 0 ∨ q = 1 ∨ q = 2 ∨ q = 3 by omega) with rfl | rfl | rfl | rfl <;> simpa using hq
  ·obtain rfl : j = 1 := by omega
   rw [if_neg (by decide)] at hq
   have hq4 : q < 4 := by have := (List.getElem?_eq_some_iff.1 hq).1; simpa using this
   rcases (show q = 0 ∨ q = 1 ∨ q = 2 ∨ q = 3 by omega) with rfl | rfl | rfl | rfl <;> simpa using hq
 ·have hj : j < 2 := hj
  rcases (show j = 0 ∨ j = 1 by omega) with rfl | rfl
  ·refine .mk 0 1 0 _ _ k1 0 1 (fun _ => [.int .i64 (-1), .int .i64 0, .slice none 0 0, .int .i64 1]) ⟨_, rfl, by simp, by omega, .inl rfl⟩ (by unfold LK; simp) (by unfold I64; omega) (by unfold I64; omega) (by unfold I64; omega) (fun j hj => ⟨hk1, fun q u hq => ?_⟩) (fun j hj => ?_)
   ·have hj : j < 1 := hj
    obtain rfl : j = 0 := by omega
    rw [h1.2]
    have hq4 : q < 4 := by have := (List.getElem?_eq_some_iff.1 hq).1; simpa using this
    rcases (show q = 0 ∨ q = 1 ∨ q = 2 ∨ q = 3 by omega) with rfl | rfl | rfl | rfl <;> simpa using hq
   ·have hj : j < 1 := hj
    obtain rfl : j = 0 := by omega
    exact DenS.leaf _ _ (by unfold I64; omega)
  ·exact DenS.leaf _ _ (by unfold I64; omega)
set_option maxHeartbeats 16000000 in
set_option maxRecDepth 100000 in
/-- sane -/
theorem sane29_any (w : World) : Calls Tryz.prog 4 #[] w fun e w' => e = .returned (.bool true) ∧ Below w.heap.size w w' := by
 obtain ⟨w0, hw0⟩ : ∃ x, w = x := ⟨_, rfl⟩
 rw [hw0]
 clear hw0
 go_enter Tryz.func4, Tryz.ntmps4
 go_wp2_with fail
 refine (two29_any _).mono ?_
 rintro e w1 ⟨a1, rfl, hf, hb⟩
 have HF1 := Lib.hid hf
 have HS1 := Lib.hid hb
 clear hf hb
 have HQ1 : Hid (Below w1.heap.size w1 (w1.alloc (Obj.cells (#[.int .i64 3, .int .i64 2] : Array Value) 3))) := Lib.hid (((Below.refl w1.heap.size w1).alloc (by first | omega | (simp; omega) | simp) _))
 have HG1 : Hid (IsFlow (w1.heap.size + 1) (w1.alloc (Obj.cells (#[.int .i64 3, .int .i64 2] : Array Value) 3)) (.int .i64 2) (.slice a1 1 1) s2) := Lib.hid ((HF1.out.below HQ1.out (Nat.le_refl _)).mono (by first | omega | (simp; omega) | simp))
 have HL1 : Hid (IsInts (w1.heap.size + 1) (w1.alloc (Obj.cells (#[.int .i64 3, .int .i64 2] : Array Value) 3)) (.slice (some ⟨w1.heap.size, 0, none⟩) 2 2) [3, 2]) := Lib.hid (litInts (b := w1.heap.size) rfl (by decide) (by omega) (by simp [I64]) (by omega) (by have h := Box.new w1 (#[.int .i64 3, .int .i64 2] : Array Value) 3; first | exact h | simpa using h))
 have HC1 := Lib.hid (emake_any (w1.heap.size + 1) (w1.alloc (Obj.cells (#[.int .i64 3, .int .i64 2] : Array Value) 3)) _ _ _ s2 [3, 2] HG1.out HL1.out (by simp))
 rw [s2_make.1, s2_make.2.1, s2_make.2.2] at HC1
 go_wp2_with fail
 refine HC1.out.mono ?_
 rintro e w2 ⟨v2, rfl, hm, hb⟩
 obtain ⟨bm2, om2, cm2, ⟨am2, rfl, _⟩, _⟩ := id hm
 have HV2 := Lib.hid hm
 clear hm
 have HS2 : Hid (Below w1.heap.size w1 w2) := Lib.hid (HQ1.out.trans (hb.mono (by first | omega | (simp; omega) | simp)))
 clear hb
 go_wp2_with fail
 refine (two29_any _).mono ?_
 rintro e w3 ⟨a3, rfl, hf, hb⟩
 have HF3 := Lib.hid hf
 have HS3 := Lib.hid hb
 clear hf hb
 have HQ3 : Hid (Below w3.heap.size w3 (((w3.alloc (Obj.cells (#[.int .i64 3, .int .i64 2] : Array Value) 3)).alloc (Obj.cells (#[.int .i64 1, .int .i64 0] : Array Value) 3)).alloc (Obj.cells (#[.slice (some ⟨w3.heap.size + 1, 0, none⟩) 2 2] : Array Value) 25))) := Lib.hid (((((Below.refl w3.heap.size w3).alloc (by first | omega | (simp; omega) | simp) _).alloc (by first | omega | (simp; omega) | simp) _).alloc (by first | omega | (simp; omega) | simp) _))
 have HG3 : Hid (IsFlow (w3.heap.size + 1 + 1 + 1) (((w3.alloc (Obj.cells (#[.int .i64 3, .int .i64 2] : Array Value) 3)).alloc (Obj.cells (#[.int .i64 1, .int .i64 0] : Array Value) 3)).alloc (Obj.cells (#[.slice (some ⟨w3.heap.size + 1, 0, none⟩) 2 2] : Array Value) 25)) (.int .i64 2) (.slice a3 1 1) s2) := Lib.hid ((HF3.out.below HQ3.out (Nat.le_refl _)).mono (by first | omega | (simp; omega) | simp))
 have HL3 : Hid (IsInts (w3.heap.size + 1 + 1 + 1) (((w3.alloc (Obj.cells (#[.int .i64 3, .int .i64 2] : Array Value) 3)).alloc (Obj.cells (#[.int .i64 1, .int .i64 0] : Array Value) 3)).alloc (Obj.cells (#[.slice (some ⟨w3.heap.size + 1, 0, none⟩) 2 2] : Array Value) 25)) (.slice (some ⟨w3.heap.size, 0, none⟩) 2 2) [3, 2]) := Lib.hid (litInts (b := w3.heap.size) rfl (by decide) (by omega) (by simp [I64]) (by omega) (by have h := Box.new w3 (#[.int .i64 3, .int .i64 2] : Array Value) 3; have h := h.alloc (.cells (#[.int .i64 1, .int .i64 0] : Array Value) 3); have h := h.alloc (.cells (#[.slice (some ⟨w3.heap.size + 1, 0, none⟩) 2 2] : Array Value) 25); first | exact h | simpa using h))
 have HM3 : Hid (IsMat (w3.heap.size + 1 + 1 + 1) (((w3.alloc (Obj.cells (#[.int .i64 3, .int .i64 2] : Array Value) 3)).alloc (Obj.cells (#[.int .i64 1, .int .i64 0] : Array Value) 3)).alloc (Obj.cells (#[.slice (some ⟨w3.heap.size + 1, 0, none⟩) 2 2] : Array Value) 25)) (.slice (some ⟨w3.heap.size + 1 + 1, 0, none⟩) 1 1) [[1, 0]]) := Lib.hid (litMat1 (by have h := Box.new ((w3.alloc (Obj.cells (#[.int .i64 3, .int .i64 2] : Array Value) 3)).alloc (Obj.cells (#[.int .i64 1, .int .i64 0] : Array Value) 3)) (#[.slice (some ⟨w3.heap.size + 1, 0, none⟩) 2 2] : Array Value) 25; first | exact h | simpa using h) (by omega) (litInts (b := w3.heap.size + 1) rfl (by decide) (by omega) (by simp [I64]) (by omega) (by have h := Box.new (w3.alloc (Obj.cells (#[.int .i64 3, .int .i64 2] : Array Value) 3)) (#[.int .i64 1, .int .i64 0] : Array Value) 3; have h := h.alloc (.cells (#[.slice (some ⟨w3.heap.size + 1, 0, none⟩) 2 2] : Array Value) 25); first | exact h | simpa using h)))
 have HC3 := Lib.hid (echk_any (w3.heap.size + 1 + 1 + 1) (((w3.alloc (Obj.cells (#[.int .i64 3, .int .i64 2] : Array Value) 3)).alloc (Obj.cells (#[.int .i64 1, .int .i64 0] : Array Value) 3)).alloc (Obj.cells (#[.slice (some ⟨w3.heap.size + 1, 0, none⟩) 2 2] : Array Value) 25)) _ _ _ _ s2 [3, 2] [[1, 0]] HG3.out HL3.out HM3.out (by simp))
 rw [s2_make.1, s2_right.1] at HC3
 go_wp2_with fail
 refine HC3.out.mono ?_
 rintro e w4 ⟨rfl, hb⟩
 have HS4 : Hid (Below w3.heap.size w3 w4) := Lib.hid (HQ3.out.trans (hb.mono (by first | omega | (simp; omega) | simp)))
 clear hb
 go_wp2_with fail
 refine (two29_any _).mono ?_
 rintro e w5 ⟨a5, rfl, hf, hb⟩
 have HF5 := Lib.hid hf
 have HS5 := Lib.hid hb
 clear hf hb
 have HQ5 : Hid (Below w5.heap.size w5 (((w5.alloc (Obj.cells (#[.int .i64 3, .int .i64 2] : Array Value) 3)).alloc (Obj.cells (#[.int .i64 0, .int .i64 1] : Array Value) 3)).alloc (Obj.cells (#[.slice (some ⟨w5.heap.size + 1, 0, none⟩) 2 2] : Array Value) 25))) := Lib.hid (((((Below.refl w5.heap.size w5).alloc (by first | omega | (simp; omega) | simp) _).alloc (by first | omega | (simp; omega) | simp) _).alloc (by first | omega | (simp; omega) | simp) _))
 have HG5 : Hid (IsFlow (w5.heap.size + 1 + 1 + 1) (((w5.alloc (Obj.cells (#[.int .i64 3, .int .i64 2] : Array Value) 3)).alloc (Obj.cells (#[.int .i64 0, .int .i64 1] : Array Value) 3)).alloc (Obj.cells (#[.slice (some ⟨w5.heap.size + 1, 0, none⟩) 2 2] : Array Value) 25)) (.int .i64 2) (.slice a5 1 1) s2) := Lib.hid ((HF5.out.below HQ5.out (Nat.le_refl _)).mono (by first | omega | (simp; omega) | simp))
 have HL5 : Hid (IsInts (w5.heap.size + 1 + 1 + 1) (((w5.alloc (Obj.cells (#[.int .i64 3, .int .i64 2] : Array Value) 3)).alloc (Obj.cells (#[.int .i64 0, .int .i64 1] : Array Value) 3)).alloc (Obj.cells (#[.slice (some ⟨w5.heap.size + 1, 0, none⟩) 2 2] : Array Value) 25)) (.slice (some ⟨w5.heap.size, 0, none⟩) 2 2) [3, 2]) := Lib.hid (litInts (b := w5.heap.size) rfl (by decide) (by omega) (by simp [I64]) (by omega) (by have h := Box.new w5 (#[.int .i64 3, .int .i64 2] : Array Value) 3; have h := h.alloc (.cells (#[.int .i64 0, .int .i64 1] : Array Value) 3); have h := h.alloc (.cells (#[.slice (some ⟨w5.heap.size + 1, 0, none⟩) 2 2] : Array Value) 25); first | exact h | simpa using h))
 have HM5 : Hid (IsMat (w5.heap.size + 1 + 1 + 1) (((w5.alloc (Obj.cells (#[.int .i64 3, .int .i64 2] : Array Value) 3)).alloc (Obj.cells (#[.int .i64 0, .int .i64 1] : Array Value) 3)).alloc (Obj.cells (#[.slice (some ⟨w5.heap.size + 1, 0, none⟩) 2 2] : Array Value) 25)) (.slice (some ⟨w5.heap.size + 1 + 1, 0, none⟩) 1 1) [[0, 1]]) := Lib.hid (litMat1 (by have h := Box.new ((w5.alloc (Obj.cells (#[.int .i64 3, .int .i64 2] : Array Value) 3)).alloc (Obj.cells (#[.int .i64 0, .int .i64 1] : Array Value) 3)) (#[.slice (some ⟨w5.heap.size + 1, 0, none⟩) 2 2] : Array Value) 25; first | exact h | simpa using h) (by omega) (litInts (b := w5.heap.size + 1) rfl (by decide) (by omega) (by simp [I64]) (by omega) (by have h := Box.new (w5.alloc (Obj.cells (#[.int .i64 3, .int .i64 2] : Array Value) 3)) (#[.int .i64 0, .int .i64 1] : Array Value) 3; have h := h.alloc (.cells (#[.slice (some ⟨w5.heap.size + 1, 0, none⟩) 2 2] : Array Value) 25); first | exact h | simpa using h)))
 have HC5 := Lib.hid (echk_any (w5.heap.size + 1 + 1 + 1) (((w5.alloc (Obj.cells (#[.int .i64 3, .int .i64 2] : Array Value) 3)).alloc (Obj.cells (#[.int .i64 0, .int .i64 1] : Array Value) 3)).alloc (Obj.cells (#[.slice (some ⟨w5.heap.size + 1, 0, none⟩) 2 2] : Array Value) 25)) _ _ _ _ s2 [3, 2] [[0, 1]] HG5.out HL5.out HM5.out (by simp))
 rw [s2_make.1, s2_right.2] at HC5
 go_wp2_with fail
 refine HC5.out.mono ?_
 rintro e w6 ⟨rfl, hb⟩
 have HS6 : Hid (Below w5.heap.size w5 w6) := Lib.hid (HQ5.out.trans (hb.mono (by first | omega | (simp; omega) | simp)))
 clear hb
 go_wp2_with fail
 refine (two29_any _).mono ?_
 rintro e w7 ⟨a7, rfl, hf, hb⟩
 have HF7 := Lib.hid hf
 have HS7 := Lib.hid hb
 clear hf hb
 have HQ7 : Hid (Below w7.heap.size w7 (w7.alloc (Obj.cells (#[.int .i64 3, .int .i64 2] : Array Value) 3))) := Lib.hid (((Below.refl w7.heap.size w7).alloc (by first | omega | (simp; omega) | simp) _))
 have HG7 : Hid (IsFlow (w7.heap.size + 1) (w7.alloc (Obj.cells (#[.int .i64 3, .int .i64 2] : Array Value) 3)) (.int .i64 2) (.slice a7 1 1) s2) := Lib.hid ((HF7.out.below HQ7.out (Nat.le_refl _)).mono (by first | omega | (simp; omega) | simp))
 have HL7 : Hid (IsInts (w7.heap.size + 1) (w7.alloc (Obj.cells (#[.int .i64 3, .int .i64 2] : Array Value) 3)) (.slice (some ⟨w7.heap.size, 0, none⟩) 2 2) [3, 2]) := Lib.hid (litInts (b := w7.heap.size) rfl (by decide) (by omega) (by simp [I64]) (by omega) (by have h := Box.new w7 (#[.int .i64 3, .int .i64 2] : Array Value) 3; first | exact h | simpa using h))
 have HC7 := Lib.hid (edeny_any (w7.heap.size + 1) (w7.alloc (Obj.cells (#[.int .i64 3, .int .i64 2] : Array Value) 3)) _ _ _ s2 [3, 2] HG7.out HL7.out (by simp))
 rw [s2_make.1, s2_deny.1] at HC7
 go_wp2_with fail
 refine HC7.out.mono ?_
 rintro e w8 ⟨y0, y1, y2, y3, rfl, hd, hb⟩
 obtain ⟨l80, l81, ad8, nd8, cd8, l83, rfl, rfl, rfl, rfl⟩ := hd.form6
 have HD8 : Hid (IsDen w8.heap.size w8 _ _) := Lib.hid (DenS.mono hd (fun q hq => hq.2))
 clear hd
 have HS8 : Hid (Below w7.heap.size w7 w8) := Lib.hid (HQ7.out.trans (hb.mono (by first | omega | (simp; omega) | simp)))
 clear hb
 go_upto_region 5 with fail
 refine wp_name (fun w9 hw => ?_)
 have HS9 : Hid (Below w8.heap.size w8 w9) := Lib.hid (by rw [hw]; exact box_below' w8 _)
 have HX9 : Hid (Box w9 w8.heap.size #[.int .i64 l80, .int .i64 l81, .slice ad8 nd8 cd8, .int .i64 l83]) := Lib.hid (by rw [hw]; exact Box.new w8 _ _)
 clear hw
 go_wp2_with fail
 refine (two29_any _).mono ?_
 rintro e w10 ⟨a10, rfl, hf, hb⟩
 have HF10 := Lib.hid hf
 have HS10 := Lib.hid hb
 clear hf hb
 have HQ10 : Hid (Below w10.heap.size w10 (w10.alloc (Obj.cells (#[.int .i64 2, .int .i64 2] : Array Value) 3))) := Lib.hid (((Below.refl w10.heap.size w10).alloc (by first | omega | (simp; omega) | simp) _))
 have HG10 : Hid (IsFlow (w10.heap.size + 1) (w10.alloc (Obj.cells (#[.int .i64 2, .int .i64 2] : Array Value) 3)) (.int .i64 2) (.slice a10 1 1) s2) := Lib.hid ((HF10.out.below HQ10.out (Nat.le_refl _)).mono (by first | omega | (simp; omega) | simp))
 have HL10 : Hid (IsInts (w10.heap.size + 1) (w10.alloc (Obj.cells (#[.int .i64 2, .int .i64 2] : Array Value) 3)) (.slice (some ⟨w10.heap.size, 0, none⟩) 2 2) [2, 2]) := Lib.hid (litInts (b := w10.heap.size) rfl (by decide) (by omega) (by simp [I64]) (by omega) (by have h := Box.new w10 (#[.int .i64 2, .int .i64 2] : Array Value) 3; first | exact h | simpa using h))
 have HC10 := Lib.hid (edeny_any (w10.heap.size + 1) (w10.alloc (Obj.cells (#[.int .i64 2, .int .i64 2] : Array Value) 3)) _ _ _ s2 [2, 2] HG10.out HL10.out (by simp))
 rw [s2_deny.2.2, s2_deny.2.1, s2_den] at HC10
 go_wp2_with fail
 refine HC10.out.mono ?_
 rintro e w11 ⟨y0, y1, y2, y3, rfl, hd, hb⟩
 obtain ⟨l110, l111, ad11, nd11, cd11, l113, rfl, rfl, rfl, rfl⟩ := hd.form6
 have HD11 : Hid (IsDen w11.heap.size w11 _ _) := Lib.hid (DenS.mono hd (fun q hq => hq.2))
 clear hd
 have HS11 : Hid (Below w10.heap.size w10 w11) := Lib.hid (HQ10.out.trans (hb.mono (by first | omega | (simp; omega) | simp)))
 clear hb
 go_upto_region 6 with fail
 refine wp_name (fun w12 hw => ?_)
 have HS12 : Hid (Below w11.heap.size w11 w12) := Lib.hid (by rw [hw]; exact box_below' w11 _)
 have HX12 : Hid (Box w12 w11.heap.size #[.int .i64 l110, .int .i64 l111, .slice ad11 nd11 cd11, .int .i64 l113]) := Lib.hid (by rw [hw]; exact Box.new w11 _ _)
 clear hw
 go_upto_region 7 with fail
 refine wp_name (fun w13 hw => ?_)
 have HS13 : Hid (Below w12.heap.size w12 w13) := Lib.hid (by rw [hw]; exact ((((Below.refl w12.heap.size w12).alloc (by first | omega | (simp; omega) | simp) _).alloc (by first | omega | (simp; omega) | simp) _).alloc (by first | omega | (simp; omega) | simp) _))
 have HX13 : Hid (Box w13 (w12.heap.size + 1 + 1) #[.int .i64 0, .int .i64 0, .slice (some ⟨w12.heap.size + 1, 0, none⟩) 2 2, .int .i64 0]) := Lib.hid (by rw [hw]; have h := Box.new ((w12.alloc (Obj.cells (#[.int .i64 (-1), .int .i64 0, .slice none 0 0, .int .i64 1] : Array Value) 30)).alloc (Obj.cells (#[.int .i64 0, .int .i64 1, .slice (some ⟨w12.heap.size, 0, none⟩) 1 1, .int .i64 0, .int .i64 (-1), .int .i64 0, .slice none 0 0, .int .i64 0] : Array Value) 30)) (#[.int .i64 0, .int .i64 0, .slice (some ⟨w12.heap.size + 1, 0, none⟩) 2 2, .int .i64 0] : Array Value) 30; first | exact h | simpa using h)
 have HD13 : Hid (IsDen w13.heap.size w13 [.int .i64 0, .int .i64 0, .slice (some ⟨w12.heap.size + 1, 0, none⟩) 2 2, .int .i64 0] wantD) := Lib.hid (wantD_lit (k1 := w12.heap.size) (k2 := w12.heap.size + 1) (by rw [hw]; have h := (((Box.new w12 (#[.int .i64 (-1), .int .i64 0, .slice none 0 0, .int .i64 1] : Array Value) 30).alloc (.cells (#[.int .i64 0, .int .i64 1, .slice (some ⟨w12.heap.size, 0, none⟩) 1 1, .int .i64 0, .int .i64 (-1), .int .i64 0, .slice none 0 0, .int .i64 0] : Array Value) 30)).alloc (.cells (#[.int .i64 0, .int .i64 0, .slice (some ⟨w12.heap.size + 1, 0, none⟩) 2 2, .int .i64 0] : Array Value) 30)); exact h) (by rw [hw]; have h := (Box.new (w12.alloc (Obj.cells (#[.int .i64 (-1), .int .i64 0, .slice none 0 0, .int .i64 1] : Array Value) 30)) (#[.int .i64 0, .int .i64 1, .slice (some ⟨w12.heap.size, 0, none⟩) 1 1, .int .i64 0, .int .i64 (-1), .int .i64 0, .slice none 0 0, .int .i64 0] : Array Value) 30).alloc (.cells (#[.int .i64 0, .int .i64 0, .slice (some ⟨w12.heap.size + 1, 0, none⟩) 2 2, .int .i64 0] : Array Value) 30); first | exact h | simpa using h) (by rw [hw]; simp; try omega) (by rw [hw]; simp; try omega))
 clear hw
 obtain ⟨V, hV⟩ : ∃ V : List (Option Value), V = [none, none, some (.agg #[.int .i64 0, .int .i64 0, .slice (some ⟨w12.heap.size + 1, 0, none⟩) 2 2, .int .i64 0]), some (.tuple #[.bool true, .int .i64 0]), some (.tuple #[.bool true, .int .i64 0]), some (.bool true), some (.int .i64 0), some (.bool true), some (.int .i64 0)] := ⟨_, rfl⟩
 have HVV := Lib.hid hV
 clear hV
 refine wp_region_V [some 78, some 79, some 80, some 81, some 77, some 82, some 83, some 15, some 16] (fun L w' xs => ValsAt V L xs ∧ (Below w13.heap.size w13 w' ∧ TwoF (L 0) (xs 0) w' ∧ TwoI (L 1) (xs 1) w')) (by kernel_rfl) (by kernel_rfl) (by rfl) (by rfl) (by rfl) ?_ ?_ ?_
 focus
  exact fun xs => ⟨ValsAt.none _ _, (by exact below_drewN (Below.refl _ _) 1), (fun e => by cases e), (fun e => by cases e)⟩
 focus
  refine ⟨?_, ?_, ?_, ?_, ?_, ?_, ?_, ?_, ?_, trivial⟩
  all_goals
   intro L a' w' xs hi hd hf hJ K hK
   obtain ⟨hv, hA, hT, hI⟩ := hJ
   have HF := Lib.hid hf
   have HVA := Lib.hid hv
   have HLI := Lib.hid hi
   clear hf hv hi
  focus
   clear hd
   obtain ⟨ρ, hρ⟩ : ∃ ρ, a'.eval = ρ := ⟨_, rfl⟩
   have hcst := cstE hρ
   have hfun : ∀ k, ρ (.func k) = .func (.func k) #[] #[] := fun k => (congrFun hρ (.func k)).symm
   rw [if_pos (by simp [Region.wanted])]
   unfold Oper.wp
   rw [hρ]
   clear hρ
   go_simp
   go_at_call 10
   refine (two29_any _).mono ?_
   rintro en w5 ⟨a5, rfl, hf5, hb5⟩
   exact hK.out _ _ ⟨HVA.out.free (i := 0) (by rw [HVV.out]; rfl) _, (by exact hA.trans (hb5.mono hA.size)), (by simp only [updV_self]; exact fun _ => ⟨a5, rfl, hf5⟩), (by simp only [une xs 1 0 rfl]; exact hI.ext hb5)⟩
  focus
   clear hd
   obtain ⟨ρ, hρ⟩ : ∃ ρ, a'.eval = ρ := ⟨_, rfl⟩
   have hcst := cstE hρ
   rw [if_pos (by simp [Region.wanted])]
   unfold Oper.wp
   rw [hρ]
   clear hρ
   go_simp
   exact hK.out _ _ ⟨HVA.out.free (i := 1) (by rw [HVV.out]; rfl) _, (by exact hA.trans ((box_below' w' _).mono hA.size)), (by simp only [une xs 0 1 rfl]; exact hT.ext (box_below' w' _)), (by simp only [updV_self]; exact fun _ => ⟨some ⟨w'.heap.size, 0, none⟩, rfl, by simpa using (litInts (B := w'.heap.size + 1) (b := w'.heap.size) (xs := [2, 2]) (cap := 2) rfl (by decide) (by omega) (by simp [I64]) (by omega) (Box.new w' #[.int .i64 2, .int .i64 2] 3))⟩)⟩
  focus
   clear hd
   obtain ⟨ρ, hρ⟩ : ∃ ρ, a'.eval = ρ := ⟨_, rfl⟩
   have hcst := cstE hρ
   have l14 : ρ (.tmp 14) = .pointer (some ⟨w12.heap.size + 1 + 1, 0, none⟩) := (congrFun hρ (.tmp 14)).symm.trans (HF.out.lo 14 rfl)
   have m0 := (hA.cell (p := ⟨w12.heap.size + 1 + 1, 0, none⟩) HX13.out.1).trans (HX13.out.2 0)
   have m1 := (hA.cell (p := ⟨w12.heap.size + 1 + 1, 1, none⟩) HX13.out.1).trans (HX13.out.2 1)
   have m2 := (hA.cell (p := ⟨w12.heap.size + 1 + 1, 2, none⟩) HX13.out.1).trans (HX13.out.2 2)
   have m3 := (hA.cell (p := ⟨w12.heap.size + 1 + 1, 3, none⟩) HX13.out.1).trans (HX13.out.2 3)
   simp at m0 m1 m2 m3
   rw [if_pos (by simp [Region.wanted])]
   unfold Oper.wp
   rw [hρ]
   clear hρ
   go_simp
   exact hK.out _ _ ⟨HVA.out.set (i := 2) (by rw [HVV.out]; rfl), hA, (by simp only [une xs 0 2 rfl, une xs 1 2 rfl]; exact hT), (by simp only [une xs 0 2 rfl, une xs 1 2 rfl]; exact hI)⟩
  focus
   obtain ⟨d0, d1, d2, _, _⟩ := hd
   obtain ⟨ρ, hρ⟩ : ∃ ρ, a'.eval = ρ := ⟨_, rfl⟩
   have hcst := cstE hρ
   have hfun : ∀ k, ρ (.func k) = .func (.func k) #[] #[] := fun k => (congrFun hρ (.func k)).symm
   have v0 : ρ (.tmp 78) = xs 0 := (congrFun hρ (.tmp 78)).symm.trans (HF.out.ev 0 rfl d0)
   have v1 : ρ (.tmp 79) = xs 1 := (congrFun hρ (.tmp 79)).symm.trans (HF.out.ev 1 rfl d1)
   have v2 : ρ (.tmp 80) = .agg #[.int .i64 0, .int .i64 0, .slice (some ⟨w12.heap.size + 1, 0, none⟩) 2 2, .int .i64 0] := (congrFun hρ (.tmp 80)).symm.trans ((HF.out.ev 2 rfl d2).trans (HVA.out 2 _ (by rw [HVV.out]; rfl) d2))
   rw [if_pos (by simp [Region.wanted])]
   unfold Oper.wp
   rw [hρ]
   clear hρ
   obtain ⟨a5, e5, hf5⟩ := hT d0
   obtain ⟨a6, e6, hi6⟩ := hI d1
   rw [e5] at v0
   rw [e6] at v1
   have HCC := Lib.hid (erefutes_any w'.heap.size w' _ _ _ _ s2 [2, 2] wantD hf5 hi6 ((HD13.out.below hA (Nat.le_refl _)).mono hA.size) (Nat.le_refl _))
   rw [s2_ref.1, s2_deny.2.2] at HCC
   go_simp
   go_at_call 12
   refine HCC.out.mono ?_
   rintro en w5 ⟨rfl, hb5⟩
   exact hK.out _ _ ⟨HVA.out.set (i := 3) (by rw [HVV.out]; rfl), (by exact hA.trans (hb5.mono hA.size)), (by simp only [une xs 0 3 rfl, une xs 1 3 rfl]; exact hT.ext hb5), (by simp only [une xs 0 3 rfl, une xs 1 3 rfl]; exact hI.ext hb5)⟩
  focus
   obtain ⟨d3, _⟩ := hd
   obtain ⟨ρ, hρ⟩ : ∃ ρ, a'.eval = ρ := ⟨_, rfl⟩
   have hcst := cstE hρ
   have v3 : ρ (.tmp 81) = .tuple #[.bool true, .int .i64 0] := (congrFun hρ (.tmp 81)).symm.trans ((HF.out.ev 3 rfl d3).trans (HVA.out 3 _ (by rw [HVV.out]; rfl) d3))
   rw [if_pos (by simp [Region.wanted])]
   unfold Oper.wp
   rw [hρ]
   clear hρ
   go_simp
   exact hK.out _ _ ⟨HVA.out.set (i := 4) (by rw [HVV.out]; rfl), hA, (by simp only [une xs 0 4 rfl, une xs 1 4 rfl]; exact hT), (by simp only [une xs 0 4 rfl, une xs 1 4 rfl]; exact hI)⟩
  focus
   obtain ⟨d4, _⟩ := hd
   obtain ⟨ρ, hρ⟩ : ∃ ρ, a'.eval = ρ := ⟨_, rfl⟩
   have hcst := cstE hρ
   have v4 : ρ (.tmp 77) = .tuple #[.bool true, .int .i64 0] := (congrFun hρ (.tmp 77)).symm.trans ((HF.out.ev 4 rfl d4).trans (HVA.out 4 _ (by rw [HVV.out]; rfl) d4))
   rw [if_pos (by simp [Region.wanted])]
   unfold Oper.wp
   rw [hρ]
   clear hρ
   go_simp
   exact hK.out _ _ ⟨HVA.out.set (i := 5) (by rw [HVV.out]; rfl), hA, (by simp only [une xs 0 5 rfl, une xs 1 5 rfl]; exact hT), (by simp only [une xs 0 5 rfl, une xs 1 5 rfl]; exact hI)⟩
  focus
   obtain ⟨d4, _⟩ := hd
   obtain ⟨ρ, hρ⟩ : ∃ ρ, a'.eval = ρ := ⟨_, rfl⟩
   have hcst := cstE hρ
   have v4 : ρ (.tmp 77) = .tuple #[.bool true, .int .i64 0] := (congrFun hρ (.tmp 77)).symm.trans ((HF.out.ev 4 rfl d4).trans (HVA.out 4 _ (by rw [HVV.out]; rfl) d4))
   rw [if_pos (by simp [Region.wanted])]
   unfold Oper.wp
   rw [hρ]
   clear hρ
   go_simp
   exact hK.out _ _ ⟨HVA.out.set (i := 6) (by rw [HVV.out]; rfl), hA, (by simp only [une xs 0 6 rfl, une xs 1 6 rfl]; exact hT), (by simp only [une xs 0 6 rfl, une xs 1 6 rfl]; exact hI)⟩
  focus
   obtain ⟨d5, d3, d0, d1, d2, _, d4, _, _⟩ := hd
   obtain ⟨ρ, hρ⟩ : ∃ ρ, a'.eval = ρ := ⟨_, rfl⟩
   have hcst := cstE hρ
   have v5 : ρ (.tmp 82) = .bool true := (congrFun hρ (.tmp 82)).symm.trans ((HF.out.ev 5 rfl d5).trans (HVA.out 5 _ (by rw [HVV.out]; rfl) d5))
   rw [if_pos (by simp [Region.wanted])]
   unfold Oper.wp
   rw [hρ]
   clear hρ
   go_simp
   exact hK.out _ _ ⟨HVA.out.set (i := 7) (by rw [HVV.out]; rfl), hA, (by simp only [une xs 0 7 rfl, une xs 1 7 rfl]; exact hT), (by simp only [une xs 0 7 rfl, une xs 1 7 rfl]; exact hI)⟩
  focus
   obtain ⟨d6, d7, d0, d1, d2, d3, d4, d5, _, _, _⟩ := hd
   obtain ⟨ρ, hρ⟩ : ∃ ρ, a'.eval = ρ := ⟨_, rfl⟩
   have hcst := cstE hρ
   have v6 : ρ (.tmp 83) = .int .i64 0 := (congrFun hρ (.tmp 83)).symm.trans ((HF.out.ev 6 rfl d6).trans (HVA.out 6 _ (by rw [HVV.out]; rfl) d6))
   rw [if_pos (by simp [Region.wanted])]
   unfold Oper.wp
   rw [hρ]
   clear hρ
   go_simp
   exact hK.out _ _ ⟨HVA.out.set (i := 8) (by rw [HVV.out]; rfl), hA, (by simp only [une xs 0 8 rfl, une xs 1 8 rfl]; exact hT), (by simp only [une xs 0 8 rfl, une xs 1 8 rfl]; exact hI)⟩
 focus
  intro L w' xs hL hJ
  obtain ⟨hv, hA, hT, hI⟩ := hJ
  have e2 : xs 2 = .agg #[.int .i64 0, .int .i64 0, .slice (some ⟨w12.heap.size + 1, 0, none⟩) 2 2, .int .i64 0] := hv 2 _ (by rw [HVV.out]; rfl) (hL 2 (by decide))
  have e3 : xs 3 = .tuple #[.bool true, .int .i64 0] := hv 3 _ (by rw [HVV.out]; rfl) (hL 3 (by decide))
  have e4 : xs 4 = .tuple #[.bool true, .int .i64 0] := hv 4 _ (by rw [HVV.out]; rfl) (hL 4 (by decide))
  have e5 : xs 5 = .bool true := hv 5 _ (by rw [HVV.out]; rfl) (hL 5 (by decide))
  have e6 : xs 6 = .int .i64 0 := hv 6 _ (by rw [HVV.out]; rfl) (hL 6 (by decide))
  have e7 : xs 7 = .bool true := hv 7 _ (by rw [HVV.out]; rfl) (hL 7 (by decide))
  have e8 : xs 8 = .int .i64 0 := hv 8 _ (by rw [HVV.out]; rfl) (hL 8 (by decide))
  simp only [putGo, Act.put, List.setIfInBounds_toArray, List.set_cons_zero, List.set_cons_succ, e2, e3, e4, e5, e6, e7, e8]
  clear hv e2 e3 e4 e5 e6 e7 e8
 obtain ⟨w14, hw⟩ : ∃ x, w' = x := ⟨_, rfl⟩
 rw [hw] at hA ⊢
 have HS14 : Hid (Below w13.heap.size w13 w14) := Lib.hid hA
 clear hw hA hT hI hL
 go_wp2_with fail
 refine (two29_any _).mono ?_
 rintro e w15 ⟨a15, rfl, hf, hb⟩
 have HF15 := Lib.hid hf
 have HS15 := Lib.hid hb
 clear hf hb
 have HQ15 : Hid (Below w15.heap.size w15 (w15.alloc (Obj.cells (#[.int .i64 2, .int .i64 2] : Array Value) 3))) := Lib.hid (((Below.refl w15.heap.size w15).alloc (by first | omega | (simp; omega) | simp) _))
 have HG15 : Hid (IsFlow (w15.heap.size + 1) (w15.alloc (Obj.cells (#[.int .i64 2, .int .i64 2] : Array Value) 3)) (.int .i64 2) (.slice a15 1 1) s2) := Lib.hid ((HF15.out.below HQ15.out (Nat.le_refl _)).mono (by first | omega | (simp; omega) | simp))
 have HL15 : Hid (IsInts (w15.heap.size + 1) (w15.alloc (Obj.cells (#[.int .i64 2, .int .i64 2] : Array Value) 3)) (.slice (some ⟨w15.heap.size, 0, none⟩) 2 2) [2, 2]) := Lib.hid (litInts (b := w15.heap.size) rfl (by decide) (by omega) (by simp [I64]) (by omega) (by have h := Box.new w15 (#[.int .i64 2, .int .i64 2] : Array Value) 3; first | exact h | simpa using h))
 have HC15 := Lib.hid (erefutes_any (w15.heap.size + 1) (w15.alloc (Obj.cells (#[.int .i64 2, .int .i64 2] : Array Value) 3)) _ _ _ _ s2 [2, 2] noD HG15.out HL15.out (DenS.zero _ _) (by simp))
 rw [s2_ref.2, s2_deny.2.2] at HC15
 go_wp2_with fail
 refine HC15.out.mono ?_
 rintro e w16 ⟨rfl, hb⟩
 have HS16 : Hid (Below w15.heap.size w15 w16) := Lib.hid (HQ15.out.trans (hb.mono (by first | omega | (simp; omega) | simp)))
 clear hb
 have HQ16 : Hid (Below w16.heap.size w16 w16) := Lib.hid ((Below.refl w16.heap.size w16))
 have HG16 : Hid (IsFlow (w16.heap.size) w16 (.int .i64 0) (.slice none 0 0) s0) := Lib.hid ⟨rfl, by simp [s0, I64], noLots⟩
 have HL16 : Hid (IsInts (w16.heap.size) w16 (.slice none 0 0) []) := Lib.hid noInts
 have HC16 := Lib.hid (emake_any (w16.heap.size) w16 _ _ _ s0 [] HG16.out HL16.out (by simp))
 rw [s0_make.1, s0_make.2.1, s0_make.2.2] at HC16
 go_wp2_with fail
 refine HC16.out.mono ?_
 rintro e w17 ⟨v17, rfl, hm, hb⟩
 obtain ⟨bm17, om17, cm17, ⟨am17, rfl, _⟩, _⟩ := id hm
 have HV17 := Lib.hid hm
 clear hm
 have HS17 : Hid (Below w16.heap.size w16 w17) := Lib.hid (HQ16.out.trans (hb.mono (by first | omega | (simp; omega) | simp)))
 clear hb
 have HQ17 : Hid (Below w17.heap.size w17 (w17.alloc (Obj.cells (#[.int .i64 1] : Array Value) 3))) := Lib.hid (((Below.refl w17.heap.size w17).alloc (by first | omega | (simp; omega) | simp) _))
 have HG17 : Hid (IsFlow (w17.heap.size + 1) (w17.alloc (Obj.cells (#[.int .i64 1] : Array Value) 3)) (.int .i64 1) (.slice none 0 0) s1) := Lib.hid ⟨rfl, by simp [s1, I64], noLots⟩
 have HL17 : Hid (IsInts (w17.heap.size + 1) (w17.alloc (Obj.cells (#[.int .i64 1] : Array Value) 3)) (.slice (some ⟨w17.heap.size, 0, none⟩) 1 1) [1]) := Lib.hid (litInts (b := w17.heap.size) rfl (by decide) (by omega) (by simp [I64]) (by omega) (by have h := Box.new w17 (#[.int .i64 1] : Array Value) 3; first | exact h | simpa using h))
 have HC17 := Lib.hid (emake_any (w17.heap.size + 1) (w17.alloc (Obj.cells (#[.int .i64 1] : Array Value) 3)) _ _ _ s1 [1] HG17.out HL17.out (by simp))
 rw [s1_make.1, s1_make.2.1] at HC17
 go_wp2_with fail
 refine HC17.out.mono ?_
 rintro e w18 ⟨v18, rfl, hm, hb⟩
 obtain ⟨bm18, om18, cm18, ⟨am18, rfl, _⟩, _⟩ := id hm
 have HV18 := Lib.hid hm
 clear hm
 have HS18 : Hid (Below w17.heap.size w17 w18) := Lib.hid (HQ17.out.trans (hb.mono (by first | omega | (simp; omega) | simp)))
 clear hb
 have HQ18 : Hid (Below w18.heap.size w18 (w18.alloc (Obj.cells (#[.int .i64 1] : Array Value) 3))) := Lib.hid (((Below.refl w18.heap.size w18).alloc (by first | omega | (simp; omega) | simp) _))
 have HG18 : Hid (IsFlow (w18.heap.size + 1) (w18.alloc (Obj.cells (#[.int .i64 1] : Array Value) 3)) (.int .i64 1) (.slice none 0 0) s1) := Lib.hid ⟨rfl, by simp [s1, I64], noLots⟩
 have HL18 : Hid (IsInts (w18.heap.size + 1) (w18.alloc (Obj.cells (#[.int .i64 1] : Array Value) 3)) (.slice (some ⟨w18.heap.size, 0, none⟩) 1 1) [1]) := Lib.hid (litInts (b := w18.heap.size) rfl (by decide) (by omega) (by simp [I64]) (by omega) (by have h := Box.new w18 (#[.int .i64 1] : Array Value) 3; first | exact h | simpa using h))
 have HC18 := Lib.hid (edeny_any (w18.heap.size + 1) (w18.alloc (Obj.cells (#[.int .i64 1] : Array Value) 3)) _ _ _ s1 [1] HG18.out HL18.out (by simp))
 rw [s1_make.1, s1_make.2.2, s1_den] at HC18
 go_wp2_with fail
 refine HC18.out.mono ?_
 rintro e w19 ⟨y0, y1, y2, y3, rfl, hd, hb⟩
 obtain ⟨l190, l191, ad19, nd19, cd19, l193, rfl, rfl, rfl, rfl⟩ := hd.form6
 have HD19 : Hid (IsDen w19.heap.size w19 _ _) := Lib.hid (DenS.mono hd (fun q hq => hq.2))
 clear hd
 have HS19 : Hid (Below w18.heap.size w18 w19) := Lib.hid (HQ18.out.trans (hb.mono (by first | omega | (simp; omega) | simp)))
 clear hb
 go_upto_region 12 with fail
 refine wp_name (fun w20 hw => ?_)
 have HS20 : Hid (Below w19.heap.size w19 w20) := Lib.hid (by rw [hw]; exact box_below' w19 _)
 have HX20 : Hid (Box w20 w19.heap.size #[.int .i64 l190, .int .i64 l191, .slice ad19 nd19 cd19, .int .i64 l193]) := Lib.hid (by rw [hw]; exact Box.new w19 _ _)
 clear hw
 go_wp2_with fail
 refine (two29_any _).mono ?_
 rintro e w21 ⟨a21, rfl, hf, hb⟩
 have HF21 := Lib.hid hf
 have HS21 := Lib.hid hb
 clear hf hb
 have HQ21 : Hid (Below w21.heap.size w21 (w21.alloc (Obj.cells (#[.int .i64 3] : Array Value) 3))) := Lib.hid (((Below.refl w21.heap.size w21).alloc (by first | omega | (simp; omega) | simp) _))
 have HG21 : Hid (IsFlow (w21.heap.size + 1) (w21.alloc (Obj.cells (#[.int .i64 3] : Array Value) 3)) (.int .i64 2) (.slice a21 1 1) s2) := Lib.hid ((HF21.out.below HQ21.out (Nat.le_refl _)).mono (by first | omega | (simp; omega) | simp))
 have HL21 : Hid (IsInts (w21.heap.size + 1) (w21.alloc (Obj.cells (#[.int .i64 3] : Array Value) 3)) (.slice (some ⟨w21.heap.size, 0, none⟩) 1 1) [3]) := Lib.hid (litInts (b := w21.heap.size) rfl (by decide) (by omega) (by simp [I64]) (by omega) (by have h := Box.new w21 (#[.int .i64 3] : Array Value) 3; first | exact h | simpa using h))
 have HC21 := Lib.hid (emake_any (w21.heap.size + 1) (w21.alloc (Obj.cells (#[.int .i64 3] : Array Value) 3)) _ _ _ s2 [3] HG21.out HL21.out (by simp))
 rw [s2_short] at HC21
 go_wp2_with fail
 refine HC21.out.mono ?_
 rintro e w22 ⟨v22, rfl, hm, hb⟩
 obtain ⟨bm22, om22, cm22, ⟨am22, rfl, _⟩, _⟩ := id hm
 have HV22 := Lib.hid hm
 clear hm
 have HS22 : Hid (Below w21.heap.size w21 w22) := Lib.hid (HQ21.out.trans (hb.mono (by first | omega | (simp; omega) | simp)))
 clear hb
 have HQ22 : Hid (Below w22.heap.size w22 w22) := Lib.hid ((Below.refl w22.heap.size w22))
 have HG22 : Hid (IsFlow (w22.heap.size) w22 (.int .i64 (-1)) (.slice none 0 0) sN) := Lib.hid ⟨rfl, by simp [sN, I64], noLots⟩
 have HL22 : Hid (IsInts (w22.heap.size) w22 (.slice none 0 0) []) := Lib.hid noInts
 have HC22 := Lib.hid (edeny_any (w22.heap.size) w22 _ _ _ sN [] HG22.out HL22.out (by simp))
 rw [sN_err] at HC22
 go_wp2_with fail
 refine HC22.out.mono ?_
 rintro e w23 ⟨y0, y1, y2, y3, rfl, hd, hb⟩
 obtain ⟨l230, l231, ad23, nd23, cd23, l233, rfl, rfl, rfl, rfl⟩ := hd.form6
 have HD23 : Hid (IsDen w23.heap.size w23 _ _) := Lib.hid (DenS.mono hd (fun q hq => hq.2))
 clear hd
 have HS23 : Hid (Below w22.heap.size w22 w23) := Lib.hid (HQ22.out.trans (hb.mono (by first | omega | (simp; omega) | simp)))
 clear hb
 go_upto_region 14 with fail
 refine wp_name (fun w24 hw => ?_)
 have HS24 : Hid (Below w23.heap.size w23 w24) := Lib.hid (by rw [hw]; exact box_below' w23 _)
 have HX24 : Hid (Box w24 w23.heap.size #[.int .i64 l230, .int .i64 l231, .slice ad23 nd23 cd23, .int .i64 l233]) := Lib.hid (by rw [hw]; exact Box.new w23 _ _)
 clear hw
 skip
 go_upto_region 18 with fail
 have HQ24 : Hid (Below w24.heap.size w24 ((w24.alloc (Obj.cells (#[.int .i64 1, .int .i64 0] : Array Value) 3)).alloc (Obj.cells (#[.slice (some ⟨w24.heap.size, 0, none⟩) 2 2] : Array Value) 25))) := Lib.hid ((((Below.refl w24.heap.size w24).alloc (by first | omega | (simp; omega) | simp) _).alloc (by first | omega | (simp; omega) | simp) _))
 have HV0 : Hid (IsMat (w24.heap.size + 1 + 1) ((w24.alloc (Obj.cells (#[.int .i64 1, .int .i64 0] : Array Value) 3)).alloc (Obj.cells (#[.slice (some ⟨w24.heap.size, 0, none⟩) 2 2] : Array Value) 25)) _ [[1, 0]]) := Lib.hid ((HV2.out.below (bt (bt (bt (bt (bt (bt (bt (bt (bt (bt (bt (bt (bt (bt (bt (bt (bt (bt (bt (bt (bt (bt HS3.out HS4.out) HS5.out) HS6.out) HS7.out) HS8.out) HS9.out) HS10.out) HS11.out) HS12.out) HS13.out) HS14.out) HS15.out) HS16.out) HS17.out) HS18.out) HS19.out) HS20.out) HS21.out) HS22.out) HS23.out) HS24.out) HQ24.out) (Nat.le_refl _)).mono (by have := (bt (bt (bt (bt (bt (bt (bt (bt (bt (bt (bt (bt (bt (bt (bt (bt (bt (bt (bt (bt (bt HS3.out HS4.out) HS5.out) HS6.out) HS7.out) HS8.out) HS9.out) HS10.out) HS11.out) HS12.out) HS13.out) HS14.out) HS15.out) HS16.out) HS17.out) HS18.out) HS19.out) HS20.out) HS21.out) HS22.out) HS23.out) HS24.out).size; omega))
 have HN0 : Hid (IsMat (w24.heap.size + 1 + 1) ((w24.alloc (Obj.cells (#[.int .i64 1, .int .i64 0] : Array Value) 3)).alloc (Obj.cells (#[.slice (some ⟨w24.heap.size, 0, none⟩) 2 2] : Array Value) 25)) (.slice (some ⟨w24.heap.size + 1, 0, none⟩) 1 1) [[1, 0]]) := Lib.hid (litMat1 (by have h := Box.new (w24.alloc (Obj.cells (#[.int .i64 1, .int .i64 0] : Array Value) 3)) (#[.slice (some ⟨w24.heap.size, 0, none⟩) 2 2] : Array Value) 25; first | exact h | simpa using h) (by omega) (litInts (b := w24.heap.size) rfl (by decide) (by omega) (by simp [I64]) (by omega) (by have h := Box.new w24 (#[.int .i64 1, .int .i64 0] : Array Value) 3; have h := h.alloc (.cells (#[.slice (some ⟨w24.heap.size, 0, none⟩) 2 2] : Array Value) 25); first | exact h | simpa using h)))
 go_wp2_with fail
 refine (sameway29_any (w24.heap.size + 1 + 1) (w24.heap.size + 1 + 1) _ _ _ _ _ HV0.out HN0.out).mono ?_
 rintro e w25 ⟨rfl, hd⟩
 have hb := hd.below (w24.heap.size + 1 + 1)
 clear hd
 rw [show sameM [[1, 0]] [[1, 0]] = true from by decide]
 have HS25 : Hid (Below w24.heap.size w24 w25) := Lib.hid (HQ24.out.trans (hb.mono (by first | omega | (simp; omega) | simp)))
 clear hb
 have hxcp := HX12.out.below (bt (bt (bt (bt (bt (bt (bt (bt (bt (bt (bt (bt HS13.out HS14.out) HS15.out) HS16.out) HS17.out) HS18.out) HS19.out) HS20.out) HS21.out) HS22.out) HS23.out) HS24.out) HS25.out) HX12.out.1
 have cp0 := hxcp.2 0
 have cp1 := hxcp.2 1
 have cp2 := hxcp.2 2
 have cp3 := hxcp.2 3
 simp at cp0 cp1 cp2 cp3
 clear hxcp
 have hxcw := HX13.out.below (bt (bt (bt (bt (bt (bt (bt (bt (bt (bt (bt HS14.out HS15.out) HS16.out) HS17.out) HS18.out) HS19.out) HS20.out) HS21.out) HS22.out) HS23.out) HS24.out) HS25.out) HX13.out.1
 have cw0 := hxcw.2 0
 have cw1 := hxcw.2 1
 have cw2 := hxcw.2 2
 have cw3 := hxcw.2 3
 simp at cw0 cw1 cw2 cw3
 clear hxcw
 have HDP : Hid (IsDen w25.heap.size w25 [.int .i64 l110, .int .i64 l111, .slice ad11 nd11 cd11, .int .i64 l113] wantD) := Lib.hid ((HD11.out.below (bt (bt (bt (bt (bt (bt (bt (bt (bt (bt (bt (bt (bt HS12.out HS13.out) HS14.out) HS15.out) HS16.out) HS17.out) HS18.out) HS19.out) HS20.out) HS21.out) HS22.out) HS23.out) HS24.out) HS25.out) (Nat.le_refl _)).mono (bt (bt (bt (bt (bt (bt (bt (bt (bt (bt (bt (bt (bt HS12.out HS13.out) HS14.out) HS15.out) HS16.out) HS17.out) HS18.out) HS19.out) HS20.out) HS21.out) HS22.out) HS23.out) HS24.out) HS25.out).size)
 have HDW : Hid (IsDen w25.heap.size w25 [.int .i64 0, .int .i64 0, .slice (some ⟨w12.heap.size + 1, 0, none⟩) 2 2, .int .i64 0] wantD) := Lib.hid ((HD13.out.below (bt (bt (bt (bt (bt (bt (bt (bt (bt (bt (bt HS14.out HS15.out) HS16.out) HS17.out) HS18.out) HS19.out) HS20.out) HS21.out) HS22.out) HS23.out) HS24.out) HS25.out) (Nat.le_refl _)).mono (bt (bt (bt (bt (bt (bt (bt (bt (bt (bt (bt HS14.out HS15.out) HS16.out) HS17.out) HS18.out) HS19.out) HS20.out) HS21.out) HS22.out) HS23.out) HS24.out) HS25.out).size)
 go_wp2_with fail
 refine (same29_any _ w25.heap.size _ _ _ wantD (Nat.le_refl _) HDP.out HDW.out (Nat.le_refl _)).mono ?_
 rintro e w26 ⟨rfl, hb⟩
 have HS26 := Lib.hid hb
 clear hb
 have hxco := HX20.out.below (bt (bt (bt (bt (bt HS21.out HS22.out) HS23.out) HS24.out) HS25.out) HS26.out) HX20.out.1
 have co0 := hxco.2 0
 have co1 := hxco.2 1
 have co2 := hxco.2 2
 have co3 := hxco.2 3
 simp at co0 co1 co2 co3
 clear hxco
 have HDO : Hid (IsDen w26.heap.size w26 [.int .i64 l190, .int .i64 l191, .slice ad19 nd19 cd19, .int .i64 l193] (leafD 0)) := Lib.hid ((HD19.out.below (bt (bt (bt (bt (bt (bt HS20.out HS21.out) HS22.out) HS23.out) HS24.out) HS25.out) HS26.out) (Nat.le_refl _)).mono (bt (bt (bt (bt (bt (bt HS20.out HS21.out) HS22.out) HS23.out) HS24.out) HS25.out) HS26.out).size)
 go_wp2_with fail
 refine (same29_any _ w26.heap.size _ _ _ (leafD 0) (Nat.le_refl _) HDO.out (IsDen.leaf1 _ _ (by unfold I64; omega)) (Nat.le_refl _)).mono ?_
 rintro e w27 ⟨rfl, hb⟩
 have HS27 := Lib.hid hb
 clear hb
 go_wp2
 go_ret
 exact ⟨rfl, (bt (bt (bt (bt (bt (bt (bt (bt (bt (bt (bt (bt (bt (bt (bt (bt (bt (bt (bt (bt (bt (bt (bt (bt (bt (bt HS1.out HS2.out) HS3.out) HS4.out) HS5.out) HS6.out) HS7.out) HS8.out) HS9.out) HS10.out) HS11.out) HS12.out) HS13.out) HS14.out) HS15.out) HS16.out) HS17.out) HS18.out) HS19.out) HS20.out) HS21.out) HS22.out) HS23.out) HS24.out) HS25.out) HS26.out) HS27.out)⟩
end Go.Proofs.YteiaeaciaglmgaaGreat
namespace Go.Proofs.YteiaeaciaglmgaaGreat
open Go.RowKit
theorem noMat {B : Nat} {w : World} : IsMat B w (.slice none 0 0) [] := ⟨0, 0, 0, ⟨none, rfl, Nat.le_refl _, by omega, Or.inr rfl⟩, by simp, fun j hj => by simp at hj⟩
end Go.Proofs.YteiaeaciaglmgaaGreat
namespace Go.Proofs.YteiaeaciaglmgaaGreat
open Go.RowKit
theorem cposs_any (B : Nat) (w : World) (vs vl va : Value) (f : Flow) (xs : List Int) (hf : IsFlow B w vs vl f) (hx : IsInts B w va xs) (hB : B ≤ w.heap.size) :
  Calls Tryz.prog 7 #[.agg #[vs, vl], va] w fun e w' => e = .returned (.tuple #[.bool (possB f xs), .int .i64 (allE f)]) ∧ Below w.heap.size w w' := by
 have HF := Lib.hid hf
 have HX := Lib.hid hx
 obtain ⟨ax, cx, rfl⟩ := hx.form
 obtain ⟨rfl, ⟨hs1, hs2⟩, hl⟩ := hf
 obtain ⟨b, off, cap, ⟨a, rfl, hcap, hmax, ha⟩, hlen, hc⟩ := hl
 clear hc ha hx
 have HC := Lib.hid (fun o o' => all27_any B ((w.alloc o).alloc o') _ _ f (HF.out.below ((box_below hB o).trans (box_below (by simp; omega) o')) (Nat.le_refl _)) (by simp; omega))
 have HP : Hid (possB f xs = (decide (allE f = 0) && decide (xs ∈ asgL f))) := Lib.hid rfl
 have HR : Hid (allR f = if allE f = 0 then asgL f else []) := Lib.hid rfl
 have hmf := @run_makeFunc_any Tryz.prog
 obtain ⟨ee, hee⟩ : ∃ x, allE f = x := ⟨_, rfl⟩
 rw [hee] at HC HP HR ⊢
 clear hee
 by_cases h1 : ee = 0
 ·have h1' : (ee != 0) = false := by simpa using h1
  have HR1 : Hid (allR f = asgL f) := Lib.hid (by rw [HR.out, if_pos h1])
  have HP1 : Hid (possB f xs = decide (xs ∈ asgL f)) := Lib.hid (by rw [HP.out, decide_eq_true h1]; rfl)
  have H1 := Lib.hid h1
  clear h1
  go_enter Tryz.func7, Tryz.ntmps7
  go_wp2_with (first
   | (go_at_call 19; refine (HC.out _ _).mono ?_; rintro e w5 ⟨v5, rfl, ho5, hb5⟩; rw [HR1.out] at ho5; obtain ⟨a5, c5, rfl, _⟩ := ho5.form; have HO5 := Lib.hid ho5; have HB5 := Lib.hid hb5; have HA5 : Hid (w5.cell? ⟨w.heap.size + 1, 0, none⟩ = some (.slice ax xs.length cx)) := Lib.hid (by have h1 := (Box.new (w.alloc (.cells #[.int .i64 f.senders, .slice a f.lots.length cap] 24)) #[.slice ax xs.length cx] 25).ext hb5; have := h1.2 0; simpa using this); clear ho5 hb5)
   | (go_at_call 20; refine (containsposs_any w5.heap.size B w5 _ (.slice ax xs.length cx) (asgL f) xs (w.heap.size + 1) HO5.out.isMat (Nat.le_refl _) (HX.out.below ((((Below.refl B w).alloc hB _).alloc (by simp; omega) _).trans (HB5.out.mono (by simp; omega))) (Nat.le_refl _)) HA5.out).mono ?_; rintro e w6 ⟨rfl, hd6⟩; have HD6 := Lib.hid hd6; clear hd6))
  go_ret2
  refine ⟨?_, (((Below.refl _ w).alloc (Nat.le_refl _) _).alloc (by simp) _).trans ((HB5.out.mono (by simp; omega)).trans (HD6.out.below _))⟩
  rw [HP1.out, ← H1.out, anyRow_same (Nat.le_refl _), List.take_length]
  rfl
 ·have h1' : (ee != 0) = true := by simpa using h1
  have HP1 : Hid (possB f xs = false) := Lib.hid (by rw [HP.out, decide_eq_false h1]; rfl)
  clear h1
  go_enter Tryz.func7, Tryz.ntmps7
  go_wp2_with (go_at_call 19; refine (HC.out _ _).mono ?_; rintro e w5 ⟨v5, rfl, ho5, hb5⟩; obtain ⟨a5, c5, rfl, _⟩ := ho5.form; have HB5 := Lib.hid hb5; clear ho5 hb5)
  go_ret2
  exact ⟨by rw [HP1.out]; rfl, (((Below.refl _ w).alloc (Nat.le_refl _) _).alloc (by simp) _).trans (HB5.out.mono (by simp; omega))⟩
end Go.Proofs.YteiaeaciaglmgaaGreat
namespace Go.Proofs.YteiaeaciaglmgaaGreat
open Go.ChangeShapes Go.WideShapes Go.ChangeAt Go.RowKit Go.Deep
theorem cell_spot {w : World} {a : Addr} {v : Value} (h : w.cell? a = some v) : a.spot = none ∧ a.block < w.heap.size := by
 unfold World.cell? at h
 split at h
 ·rename_i c t x hc
  refine ⟨?_, (Array.getElem?_eq_some_iff.1 hc).1⟩
  cases hs : a.spot with
  | none => rfl
  | some n => simp [hs] at h
 ·cases h
theorem I64.of_wf {n : Int} (h : (Lit.int .i64 n).wf = true) : I64 n := by
 simp [Lit.wf, IntKind.min, IntKind.max, IntKind.signed, IntKind.bits] at h
 unfold I64
 omega
variable {H : Type} {enc : TypeId × Value → H} {w : World}
theorem open_IsInts {fuel : Nat} {v : Value} {x : DataW H × List MemPlace} (h : DataW.trod enc Tryz.prog w 0 (fun _ => true) true fuel 25 [v] = some x)
  (hsz : ∀ n ∈ x.1.weights Tryz.prog 25, n ≤ reachBytes) : ∃ zs, IsInts w.heap.size w v zs := by
 have hb : Tryz.prog.bytesOf 3 = 8 := by kernel_rfl
 rcases open_ints Tryz.underlying25 Tryz.underlying3 (by kernel_rfl) h with ⟨hv, rfl⟩ | ⟨a, len, cap, zs, hv, _, hl, hm, hzl, rfl, hcell, hwf⟩
 ·cases hv
  exact ⟨[], 0, 0, 0, ⟨none, rfl, Nat.le_refl _, by omega, Or.inr rfl⟩, by simp, by simp, fun j hj => by simp at hj⟩
 ·cases hv
  simp only [if_true] at hzl
  have h8 := hsz (((lits .i64 (zs.take len) : List (DataW H)).length + (lits .i64 (zs.drop len) : List (DataW H)).length) * Tryz.prog.bytesOf 3) (by simp only [DataW.weights, Tryz.underlying25]; exact List.mem_cons_self)
  rw [hb] at h8
  have hlt : (lits .i64 (zs.take len) : List (DataW H)).length = len := by simp [lits]; omega
  have hld : (lits .i64 (zs.drop len) : List (DataW H)).length = cap - len := by simp [lits]; omega
  rw [hlt, hld] at h8
  unfold reachBytes at h8
  have hn : (zs.take len).length = len := by simp; omega
  refine ⟨zs.take len, a.block, a.off, cap, ⟨some a, by rw [hn], by omega, by unfold maxLen at hm; omega, ?_⟩, by omega, fun y hy => I64.of_wf (hwf y (List.mem_of_mem_take hy)), fun j hj => ?_⟩
  ·by_cases h0 : len = 0
   ·exact Or.inr (by omega)
   ·have := (cell_spot (hcell 0 (by omega))).1
    left
    obtain ⟨b, o, sp⟩ := a
    simp [Addr.add] at this
    rw [this]
  ·rw [hn] at hj
   have hc := hcell j (by omega)
   have h0 := (cell_spot (hcell 0 (by omega))).1
   have hb2 := (cell_spot hc).2
   obtain ⟨b, o, sp⟩ := a
   simp [Addr.add] at h0
   subst h0
   rw [add_plain] at hc hb2
   refine ⟨hb2, ?_⟩
   rw [hc]
   unfold nth
   rw [List.getD_eq_getElem?_getD, List.getD_eq_getElem?_getD, List.getElem?_take, if_pos hj]
theorem weightsAll_mem {P : Program} {e : TypeId} {d : DataW H} {n : Nat} : ∀ {l : List (DataW H)}, d ∈ l → n ∈ d.weights P e → n ∈ DataW.weightsAll P e l
 | [], h, _ => by cases h
 | x :: r, h, hn => by
  simp only [DataW.weightsAll, List.mem_append]
  rcases List.mem_cons.1 h with rfl | h
  ·exact Or.inl hn
  ·exact Or.inr (weightsAll_mem h hn)
set_option maxRecDepth 100000 in
theorem open_IsLot {fuel : Nat} {c : List Value} {x : DataW H × List MemPlace} (h : DataW.trod enc Tryz.prog w 0 (fun _ => true) true fuel 64 c = some x)
  (hsz : ∀ n ∈ x.1.weights Tryz.prog 64, n ≤ reachBytes) : ∃ vi vk vp d, c = [vi, vk, vp] ∧ IsLot w.heap.size w vi vk vp d := by
 obtain ⟨y0, y1, y2, n, rfl, hl, h0, h1, h2⟩ := trod_struct3 Tryz.underlying64 h
 have hC : Tryz.prog.cellsOf 64 = 3 := by kernel_rfl
 have k0 : Tryz.prog.cellsOf 25 = 1 := by kernel_rfl
 have k1 : Tryz.prog.cellsOf 4 = 1 := by kernel_rfl
 rw [hC] at hl
 match c, hl with
 | [vi, vk, vp], _ =>
  simp only [k0, k1, List.drop_zero, List.drop_succ_cons, List.take_succ_cons, List.take_zero] at h0 h1 h2
  obtain ⟨kb, hk, hy⟩ := DataW.trod_bool Tryz.underlying4 h1
  cases hk
  have hw : ∀ n ∈ DataW.weightsEach Tryz.prog [25, 4, 25] [y0.1, y1.1, y2.1], n ≤ reachBytes := by
   intro n hn
   refine hsz n ?_
   simp only [DataW.weights, Tryz.underlying64]
   exact hn
  obtain ⟨z0, i0⟩ := open_IsInts h0 (fun n hn => hw n (DataW.weights_mem_each (j := 0) (t := 25) rfl rfl n hn))
  obtain ⟨z2, i2⟩ := open_IsInts h2 (fun n hn => hw n (DataW.weights_mem_each (j := 2) (t := 25) rfl rfl n hn))
  exact ⟨vi, _, vp, ⟨z0, kb, z2⟩, rfl, i0, rfl, i2⟩
theorem open_IsLots {fuel : Nat} {v : Value} {x : DataW H × List MemPlace} (h : DataW.trod enc Tryz.prog w 0 (fun _ => true) true fuel 22 [v] = some x)
  (hsz : ∀ n ∈ x.1.weights Tryz.prog 22, n ≤ reachBytes) : ∃ ls, IsLots w.heap.size w v ls ∧ ls.length ≤ 2513169434843 := by
 have hC : Tryz.prog.cellsOf 64 = 3 := by kernel_rfl
 have hb : Tryz.prog.bytesOf 64 = 56 := by kernel_rfl
 rcases open_slice Tryz.underlying22 h with ⟨hv, rfl⟩ | ⟨a, len, cap, m, n, D, Pl, hv, _, hl, hm, hmm, rfl, hx⟩
 ·cases hv
  exact ⟨[], ⟨0, 0, 0, ⟨none, rfl, Nat.le_refl _, by omega, Or.inr rfl⟩, by simp, fun j hj => by simp at hj⟩, by simp⟩
 ·cases hv
  simp only [if_true] at hmm
  subst hmm
  have h8 := hsz ((((List.range len).map D).length + ((List.range (m - len)).map fun j => D (len + j)).length) * Tryz.prog.bytesOf 64) (by simp only [DataW.weights, Tryz.underlying22]; exact List.mem_cons_self)
  rw [hb] at h8
  simp only [List.length_map, List.length_range] at h8
  unfold reachBytes at h8
  have hel : ∀ i, i < len → ∃ vi vk vp d, (w.cells? 0 (a.add (i * 3)) 3 = some [vi, vk, vp]) ∧ IsLot w.heap.size w vi vk vp d := by
   intro i hi
   obtain ⟨cs', h1, h2⟩ := hx i (by omega)
   rw [hC] at h1
   obtain ⟨vi, vk, vp, d, rfl, hd⟩ := open_IsLot h2 (fun n hn => hsz n (by
    simp only [DataW.weights, Tryz.underlying22]
    exact List.mem_cons_of_mem _ (List.mem_append_left _ (weightsAll_mem (List.mem_map.2 ⟨i, List.mem_range.2 hi, rfl⟩) hn))))
   exact ⟨vi, vk, vp, d, h1, hd⟩
  obtain ⟨L, hL⟩ := choose_lt (α := Lot) (p := fun i d => ∃ vi vk vp, (w.cells? 0 (a.add (i * 3)) 3 = some [vi, vk, vp]) ∧ IsLot w.heap.size w vi vk vp d) (fun i hi => by
   obtain ⟨vi, vk, vp, d, h1, h2⟩ := hel i hi
   exact ⟨d, vi, vk, vp, h1, h2⟩)
  have hn : ((List.range len).map L).length = len := by simp
  have hsp : 0 < len → a.spot = none := by
   intro h0
   obtain ⟨vi, vk, vp, d, h1, _⟩ := hel 0 h0
   have := (World.cells?_some h1).2.2 0 (by omega)
   simp [Addr.add] at this
   exact (cell_spot this).1
  refine ⟨(List.range len).map L, ⟨a.block, a.off, m, ⟨some a, by rw [hn], by omega, by unfold maxLen at hm; omega, ?_⟩, by omega, fun j hj => ?_⟩, by omega⟩
  ·by_cases h0 : len = 0
   ·exact Or.inr (by omega)
   ·left
    have := hsp (by omega)
    obtain ⟨b, o, sp⟩ := a
    simp at this
    rw [this]
  ·rw [hn] at hj
   have h0 := hsp (by omega)
   obtain ⟨b, o, sp⟩ := a
   simp at h0
   subst h0
   obtain ⟨vi, vk, vp, h1, h2⟩ := hL j hj
   have hat : lotAt ((List.range len).map L) j = L j := by
    unfold lotAt
    rw [List.getD_eq_getElem?_getD]
    simp [hj]
   have hc := (World.cells?_some h1).2.2
   rw [add_plain] at hc
   have c0 := hc 0 (by omega)
   have c1 := hc 1 (by omega)
   have c2 := hc 2 (by omega)
   rw [add_plain] at c0 c1 c2
   rw [hat]
   exact ⟨vi, vk, vp, ⟨(cell_spot c0).2, c0⟩, ⟨(cell_spot c1).2, c1⟩, ⟨(cell_spot c2).2, c2⟩, h2⟩
set_option maxRecDepth 100000 in
theorem open_IsFlow_le {r : Reach} {b0 : Nat} {v : Value} {d : DataW H} {p : List MemPlace} (hv : Value.okWide Tryz.prog w r b0 24 v) (h : DataW.Trod enc Tryz.prog w 0 (fun _ => true) true 24 v d p)
  (hsz : ∀ n ∈ d.weights Tryz.prog 24, n ≤ reachBytes) : ∃ vs vl f, v = .agg #[vs, vl] ∧ IsFlow w.heap.size w vs vl f ∧ f.lots.length ≤ 2513169434843 := by
 have hC : Tryz.prog.cellsOf 24 = 2 := by kernel_rfl
 have k0 : Tryz.prog.cellsOf 3 = 1 := by kernel_rfl
 have k1 : Tryz.prog.cellsOf 22 = 1 := by kernel_rfl
 obtain ⟨cs, rfl, hs⟩ := okWide_struct Tryz.underlying24 hv
 obtain ⟨fuel, hf⟩ := h
 obtain ⟨y0, y1, n, hx, hl, h0, h1⟩ := trod_struct2 Tryz.underlying24 hf
 rw [hC] at hs
 obtain ⟨l⟩ := cs
 match l, hs with
 | [vs, vl], _ =>
  simp only [Value.cells, k0, k1, List.drop_zero, List.drop_succ_cons, List.take_succ_cons, List.take_zero] at h0 h1
  simp only [Prod.mk.injEq] at hx
  obtain ⟨rfl, _⟩ := hx
  obtain ⟨s, he, hy, hwf⟩ := DataW.trod_int Tryz.underlying3 h0
  cases he
  obtain ⟨ls, hls, hle⟩ := open_IsLots h1 (fun n hn => hsz n (by
   simp only [DataW.weights, Tryz.underlying24]
   exact DataW.weights_mem_each (j := 1) (t := 22) rfl rfl n hn))
  exact ⟨_, vl, ⟨s, ls⟩, rfl, ⟨rfl, I64.of_wf hwf, hls⟩, hle⟩
set_option maxRecDepth 100000 in
theorem open_IsFlow {r : Reach} {b0 : Nat} {v : Value} {d : DataW H} {p : List MemPlace} (hv : Value.okWide Tryz.prog w r b0 24 v) (h : DataW.Trod enc Tryz.prog w 0 (fun _ => true) true 24 v d p)
  (hsz : ∀ n ∈ d.weights Tryz.prog 24, n ≤ reachBytes) : ∃ vs vl f, v = .agg #[vs, vl] ∧ IsFlow w.heap.size w vs vl f := by
 obtain ⟨vs, vl, f, h1, h2, _⟩ := open_IsFlow_le hv h hsz
 exact ⟨vs, vl, f, h1, h2⟩
theorem open_IsInts' {v : Value} {d : DataW H} {p : List MemPlace} (hcs : v.cells.toList = [v]) (h : DataW.Trod enc Tryz.prog w 0 (fun _ => true) true 25 v d p)
  (hsz : ∀ n ∈ d.weights Tryz.prog 25, n ≤ reachBytes) : ∃ zs, IsInts w.heap.size w v zs := by
 obtain ⟨fuel, hf⟩ := h
 rw [hcs] at hf
 exact open_IsInts hf hsz
end Go.Proofs.YteiaeaciaglmgaaGreat
namespace Go.Proofs.YteiaeaciaglmgaaGreat
open Go.RowKit
/-- the assignments are where the ways lead -/
theorem asg_ways {f : Flow} : ∀ k, k ≤ f.lots.length → ∀ p : List Int, p ∈ asgTo f k ↔ ∃ v : List (List Int), v.length = k ∧ WayOk f v k ∧ p = (List.range f.senders.toNat).map (fun i => posW f v k i)
 | 0, _, p => by
  have e : asgTo f 0 = [beginL f] := rfl
  rw [e, List.mem_singleton]
  have e2 : beginL f = (List.range f.senders.toNat).map (fun i => posW f [] 0 i) := by
   unfold beginL
   exact List.map_congr_left fun i _ => (pos_zero f [] i).symm
  constructor
  ·intro h
   exact ⟨[], rfl, (fun j hj => by omega), h.trans e2⟩
  ·rintro ⟨v, hv, _, h⟩
   obtain rfl := List.eq_nil_of_length_eq_zero hv
   exact h.trans e2.symm
 | k + 1, hk, p => by
  rw [mem_asgTo]
  constructor
  ·rintro ⟨q, hq, π, hπ, rfl⟩
   obtain ⟨v, h1, h2, rfl⟩ := (asg_ways k (by omega) q).1 hq
   refine ⟨v ++ [π], by simp [h1], way_app h1 h2 hπ, ?_⟩
   unfold moveL
   rw [List.map_map]
   refine List.map_congr_left fun i _ => ?_
   show mvI (lotAt f.lots k).ins π (beforeI f k) (posW f v k i) = _
   rw [pos_step (by omega), pos_same (w := v ++ [π]) (w' := v) (by omega) (fun j hj => by rw [rowAt_app, if_pos (by omega)]) i]
   rw [show rowAt (v ++ [π]) k = π by rw [rowAt_app, if_neg (by omega), if_pos (by omega)]]
   rfl
  ·rintro ⟨v, h1, h2, rfl⟩
   refine ⟨_, (asg_ways k (by omega) _).2 ⟨v.take k, by simp [h1], fun j hj => ?_, rfl⟩, rowAt v k, h2 k (by omega), ?_⟩
   ·have e : rowAt (v.take k) j = rowAt v j := by
     unfold rowAt
     rw [List.getD_eq_getElem?_getD, List.getD_eq_getElem?_getD, List.getElem?_take, if_pos hj]
    rw [e]
    exact h2 j (by omega)
   ·unfold moveL
    rw [List.map_map]
    refine List.map_congr_left fun i _ => ?_
    show _ = mvI (lotAt f.lots k).ins (rowAt v k) (beforeI f k) (posW f (v.take k) k i)
    rw [pos_step (by omega), pos_same (w := v.take k) (w' := v) (by omega) (fun j hj => by
     unfold rowAt
     rw [List.getD_eq_getElem?_getD, List.getD_eq_getElem?_getD, List.getElem?_take, if_pos hj]) i]
    rfl
/-- a list is explained exactly if it is an assignment -/
theorem poss_law {f : Flow} {a : List Int} (he : errX f a = 0) (hE : allE f = 0) : possB f a = makeB f a := by
 unfold possB
 rw [decide_eq_true hE, Bool.true_and, Bool.eq_iff_iff, decide_eq_true_eq, make_iff he]
 unfold asgL
 rw [asg_ways _ (Nat.le_refl _)]
 refine exists_congr fun v => and_congr Iff.rfl (and_congr Iff.rfl ?_)
 have e : mapL (alongF f v) = (List.range f.senders.toNat).map (fun i => posW f v f.lots.length i) := by
  unfold mapL
  rw [along_len]
  rfl
 unfold leadsB sameB
 rw [decide_eq_true_eq, e]
 exact eq_comm
theorem allE_two {f : Flow} (hc : checkE f = 0) (h : allE f ≠ 0) : allE f = 2 := by
 unfold allE at *
 rw [if_neg (by simp [hc])] at *
 split
 ·rfl
 ·rename_i h1
  rw [if_neg h1] at h
  split
  ·rfl
  ·rename_i h2
   rw [if_neg h2] at h
   exact absurd rfl h
set_option maxHeartbeats 8000000 in
set_option maxRecDepth 100000 in
/-- franking/frankinglaw29.ExplainPossible -/
theorem explainPossible_any (B : Nat) (w : World) (vs vl va : Value) (f : Flow) (zs : List Int) (hf : IsFlow B w vs vl f) (hz : IsInts B w va zs) (hB : B ≤ w.heap.size) :
  Calls Tryz.prog 3 #[.agg #[vs, vl], va] w fun e w' => e = .returned (.bool true) ∧ Below w.heap.size w w' := by
 have HF := Lib.hid hf
 have HZ := Lib.hid hz
 obtain ⟨rfl, ⟨hs1, hs2⟩, hl'⟩ := hf
 obtain ⟨b, off, cap, ⟨a, rfl, hcap, hmax, ha⟩, hlen, hc⟩ := hl'
 obtain ⟨az, cz, rfl⟩ := hz.form
 obtain ⟨nz, hnz⟩ : ∃ x, zs.length = x := ⟨_, rfl⟩
 rw [hnz] at HZ ⊢
 have HNZ := Lib.hid hnz
 obtain ⟨nl, hnl⟩ : ∃ x, f.lots.length = x := ⟨_, rfl⟩
 rw [hnl] at HF ⊢
 have HNL := Lib.hid hnl
 clear hz ha hc hnz hnl hmax hlen
 go_enter Tryz.func3, Tryz.ntmps3
 go_upto_region 1 with fail
 refine wp_name (fun w1 hw1 => ?_)
 have HXF1 : Hid (Box w1 (w.heap.size) #[.int .i64 f.senders, .slice a nl cap]) := Lib.hid (by
  rw [hw1]
  have h := Box.new w (#[.int .i64 f.senders, .slice a nl cap] : Array Value) 24
  try simp only [World.size_alloc] at h
  exact h)
 have HB1 : Hid (Below w.heap.size w w1) := Lib.hid (by rw [hw1]; exact ((Below.refl w.heap.size w).alloc (by first | omega | (simp; omega) | simp) _))
 clear hw1
 go_wp2_with fail
 refine (sane29_any w1).mono ?_
 rintro e w2 ⟨rfl, hb⟩
 have HXF2 := Lib.hid (HXF1.out.ext hb)
 have HB2 : Hid (Below w.heap.size w w2) := Lib.hid (HB1.out.trans (hb.mono HB1.out.size))
 clear hb
 have rXF := HXF2.out.2
 go_wp2_with fail
 refine (few29_any B w2 _ _ _ _ _ f zs [] noD (HF.out.below HB2.out hB) (HZ.out.below HB2.out hB) noMat (DenS.zero _ _) (Nat.le_trans hB HB2.out.size)).mono ?_
 rintro e w3 ⟨⟨rr, rfl, hfew⟩, hb⟩
 have HXF3 := Lib.hid (HXF2.out.ext hb)
 have HB3 : Hid (Below w.heap.size w w3) := Lib.hid (HB2.out.trans (hb.mono HB2.out.size))
 clear hb
 clear rXF
 cases rr
 ·go_wp2
  go_ret
  exact ⟨rfl, HB3.out⟩
 have HFEW := Lib.hid (hfew rfl)
 clear hfew
 have rXF := HXF3.out.2
 go_wp2_with fail
 refine (error29_any B w3 _ _ _ f zs (HF.out.below HB3.out hB) (HZ.out.below HB3.out hB) (Nat.le_trans hB HB3.out.size)).mono ?_
 rintro e w4 ⟨rfl, hb⟩
 have HXF4 := Lib.hid (HXF3.out.ext hb)
 have HB4 : Hid (Below w.heap.size w w4) := Lib.hid (HB3.out.trans (hb.mono HB3.out.size))
 clear hb
 clear rXF
 by_cases he : errX f zs = 0
 ·rw [he]
  have HE0 := Lib.hid he
  have HCK := Lib.hid (errX_ok he).1
  clear he
  have rXF := HXF4.out.2
  go_wp2_with fail
  refine (cposs_any B w4 _ _ _ f zs (HF.out.below HB4.out hB) (HZ.out.below HB4.out hB) (Nat.le_trans hB HB4.out.size)).mono ?_
  rintro e w5 ⟨rfl, hb⟩
  have HXF5 := Lib.hid (HXF4.out.ext hb)
  have HB5 : Hid (Below w.heap.size w w5) := Lib.hid (HB4.out.trans (hb.mono HB4.out.size))
  clear hb
  clear rXF
  by_cases hal : allE f = 0
  ·have HPL := Lib.hid (poss_law HE0.out hal)
   have HEI := Lib.hid (either_law HE0.out)
   rw [HPL.out, hal]
   clear hal
   have rXF := HXF5.out.2
   go_wp2_with fail
   refine (emake_any B w5 _ _ _ f zs (HF.out.below HB5.out hB) (HZ.out.below HB5.out hB) (Nat.le_trans hB HB5.out.size)).mono ?_
   rintro e w6 ⟨v1, rfl, hm, hb⟩
   obtain ⟨bm1, om1, cm1, ⟨am1, rfl, _⟩, _⟩ := id hm
   have HM16 := Lib.hid hm
   clear hm
   have HXF6 := Lib.hid (HXF5.out.ext hb)
   have HB6 : Hid (Below w.heap.size w w6) := Lib.hid (HB5.out.trans (hb.mono HB5.out.size))
   clear hb
   clear rXF
   rw [HE0.out]
   have rXF := HXF6.out.2
   go_wp2_with fail
   refine (edeny_any B w6 _ _ _ f zs (HF.out.below HB6.out hB) (HZ.out.below HB6.out hB) (Nat.le_trans hB HB6.out.size)).mono ?_
   rintro e w7 ⟨y0, y1, y2, y3, rfl, hd, hb⟩
   obtain ⟨l10, l11, ad1, nd1, cd1, l13, rfl, rfl, rfl, rfl⟩ := hd.form6
   have HE17 : Hid (IsDen w7.heap.size w7 [.int .i64 l10, .int .i64 l11, .slice ad1 nd1 cd1, .int .i64 l13] (denyR f zs)) := Lib.hid (DenS.mono hd (fun q hq => hq.2))
   clear hd
   have HXF7 := Lib.hid (HXF6.out.ext hb)
   have HM17 : Hid (IsMat w7.heap.size w7 (.slice am1 (makeR f zs).length cm1) (makeR f zs)) := Lib.hid ((HM16.out.below hb (Nat.le_refl _)).mono hb.size)
   have HB7 : Hid (Below w.heap.size w w7) := Lib.hid (HB6.out.trans (hb.mono HB6.out.size))
   clear hb
   clear rXF
   go_upto_region 10 with fail
   refine wp_name (fun w8 hw => ?_)
   have hb : Below w7.heap.size w7 w8 := by rw [hw]; exact box_below' w7 _
   have HXE18 : Hid (Box w8 w7.heap.size #[.int .i64 l10, .int .i64 l11, .slice ad1 nd1 cd1, .int .i64 l13]) := Lib.hid (by rw [hw]; exact Box.new w7 _ _)
   clear hw
   have HXF8 := Lib.hid (HXF7.out.ext hb)
   have HM18 : Hid (IsMat w8.heap.size w8 (.slice am1 (makeR f zs).length cm1) (makeR f zs)) := Lib.hid ((HM17.out.below hb (Nat.le_refl _)).mono hb.size)
   have HE18 : Hid (IsDen w8.heap.size w8 [.int .i64 l10, .int .i64 l11, .slice ad1 nd1 cd1, .int .i64 l13] (denyR f zs)) := Lib.hid ((HE17.out.below hb (Nat.le_refl _)).mono hb.size)
   have HB8 : Hid (Below w.heap.size w w8) := Lib.hid (HB7.out.trans (hb.mono HB7.out.size))
   clear hb
   rw [HEI.out, HE0.out]
   obtain ⟨MB, hMB⟩ : ∃ x, makeB f zs = x := ⟨_, rfl⟩
   rw [hMB]
   clear hMB
   go_wp2
   go_ret
   exact ⟨rfl, HB8.out⟩
  ·have h2 := allE_two HCK.out hal
   rw [h2]
   clear hal h2
   go_wp2
   go_ret
   exact ⟨rfl, HB5.out⟩
 ·obtain ⟨ER, hER⟩ : ∃ x, errX f zs = x := ⟨_, rfl⟩
  rw [hER] at he ⊢
  have he1 : (ER != 0) = true := by simpa using he
  clear hER
  go_wp2
  go_ret
  exact ⟨rfl, HB4.out⟩
end Go.Proofs.YteiaeaciaglmgaaGreat
