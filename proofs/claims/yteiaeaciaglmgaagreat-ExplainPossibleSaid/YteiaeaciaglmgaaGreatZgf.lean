/- Layers EX7 EX8 EX9 EX10 EX11 EX12 EX13 EX14 EX15 EX16 EX17 EX18 EX19: the walks and the plain laws under the last text, merged and cut to what it uses; nothing is assumed. -/
import Derived.Test.YteiaeaciaglmgaaGreatZge
set_option linter.unusedVariables false
set_option linter.unusedSimpArgs false
namespace Go.Proofs.YteiaeaciaglmgaaGreat
open Go.RowKit
attribute [local go_sem] Oper.semAt_some
attribute [local go_sem] run_store_func
theorem eperms_any (w : World) (n : Int) :
  Calls Tryz.prog 28 #[.int .i64 n] w fun e w' => e = .returned (.func (.func 49) #[] #[.pointer (some ⟨w.heap.size, 0, none⟩)]) ∧ w' = w.alloc (.cells #[.int .i64 n] 3) := by
 have hmf := @run_makeFunc_any Tryz.prog
 go_enter Tryz.func28, Tryz.ntmps28
 go_wp2
 go_ret
 exact ⟨rfl, rfl⟩
theorem MapKeep.ext {W W' : World} {bm : Nat} (b : Int) (hb : Below W.heap.size W W') : MapKeep W W' bm b := fun al h => ⟨al, h.ext hb, fun _ _ => rfl⟩
theorem drew_size (w : World) : w.drew.heap.size = w.heap.size := rfl
theorem WayV.other {P X : Nat → Prop} {C : Nat} {w w' : World} {v : Value} {rows : List (List Int)} {vals : List Value} (h : WayV P C w v rows vals) (ht : Turned X w w') (hv : ∀ q, v.ownBlock = some q → ¬ X q) (hX : ∀ q i z, X q → w.cell? ⟨q, i, none⟩ ≠ some (.int .i64 z)) : WayV P C w' v rows vals := by
 obtain ⟨⟨k1, h1⟩, h2, h3, h4⟩ := h
 refine ⟨⟨k1, ?_⟩, h2, h3, fun j hj => ?_⟩
 ·rcases h1 with h1 | ⟨g, cap, cur, rfl, hb, hh, rest⟩
  ·exact .inl h1
  ·exact .inr ⟨g, cap, cur, rfl, hb, (ht.block g (Array.getElem?_eq_some_iff.1 hh).1 (hv g rfl)).trans hh, rest⟩
 ·obtain ⟨b, o, c, g1, g2, g3, g4⟩ := h4 j hj
  exact ⟨b, o, c, g1, g2, g3, fun i hi => ⟨(g4 i hi).1, Nat.lt_of_lt_of_le (g4 i hi).2.1 ht.size, (ht.cell (p := ⟨b, o + i, none⟩) (g4 i hi).2.1 (fun hx => hX b (o + i) _ hx (g4 i hi).2.2)).trans (g4 i hi).2.2⟩⟩
theorem FPost.wrap {E : EnvM} (hE : E.Ok) {K S X : Nat → Prop} {v : Value} {k : Nat} {ws : List Value} {w : List (List Int)} {W W5 W6 W7 : World} {r : Option (List (List Int))} {e : Ending} (h0 : FindS E K v k ws w W) (hb : Below W.heap.size W W5) (h : FPost E K S v k ws w W5 r e W6)
  (ht : Turned X W6 W7) (hX : ∀ q, X q → W.heap.size ≤ q ∧ q < W5.heap.size ∧ ∀ i z, W6.cell? ⟨q, i, none⟩ ≠ some (.int .i64 z)) : FPost E K S v k ws w W r e W7 := by
 obtain ⟨he, v', h1, h2, h3, h4, h5⟩ := h
 have hsz := h0.sz
 have hbz := hb.size
 have hx3 := hE.x3
 obtain ⟨al, m1, m2⟩ := h1.mp
 have hown : ∀ q, v'.ownBlock = some q → ¬ X q := fun q e hx => by
  have hq := hX q hx
  rcases h4 q e with h | h
  ·have := (h0.own q h).2; omega
  ·omega
 have m3 : ∀ al, IntMap W6 E.bm al → IntMap W7 E.bm al := fun al h => h.turned ht (fun hx => by have := (hX _ hx).1; omega)
 refine ⟨he, v', h1.turnedW hE ht (fun q q1 q2 hx => by have := (hX _ hx).1; omega) (fun q q1 q2 q3 hx => by have := (hX _ hx).1; have := (h0.nn q q2).2; omega) hown (m3 al m1) m2, fun al2 ha2 => ?_, ?_, fun g e => ?_, fun u hu => ?_⟩
 ·obtain ⟨al', a1, a2⟩ := h2 al2 (ha2.ext hb)
  exact ⟨al', m3 al' a1, a2⟩
 ·exact ((Turned.of_below hb).transE h3 (fun q _ e => e)).transE ht (fun q hq hx => by have := (hX _ hx).1; omega)
 ·rcases h4 g e with h | h
  ·exact .inl h
  ·exact .inr (by omega)
 ·obtain ⟨vals, hv⟩ := h5 u hu
  refine ⟨vals, (hv.other ht hown (fun q i z hx => (hX q hx).2.2 i z)).mono (fun q hq _ => ?_)⟩
  rcases hq with hq | hq | hq
  ·exact .inl hq
  ·exact .inr (.inl hq)
  ·exact .inr (.inr (by omega))
theorem Cell1.noInt {w : World} {b : Nat} {x : Bool} (h : Cell1 w b (.bool x)) (i : Nat) (z : Int) : w.cell? ⟨b, i, none⟩ ≠ some (.int .i64 z) := by
 rw [h.box.2 i]
 cases i with
 | zero => simp
 | succ i => simp
theorem find_known {f : Flow} {a : List Int} {k : Nat} (hk : k < f.lots.length) (hkn : (lotAt f.lots k).known = true) (w : List (List Int)) : findM f a (f.lots.length - k) w = findM f a (f.lots.length - (k + 1)) (w ++ [(lotAt f.lots k).perm]) := by
 obtain ⟨m, hm⟩ : ∃ m, f.lots.length - k = m + 1 := ⟨f.lots.length - k - 1, by omega⟩
 rw [hm, show f.lots.length - (k + 1) = m by omega]
 simp only [findM]
 rw [show f.lots.length - (m + 1) = k by omega]
 unfold permsOf
 rw [if_pos hkn]
 simp
theorem find_unk {f : Flow} {a : List Int} {k : Nat} (hk : k < f.lots.length) (hkn : (lotAt f.lots k).known = false) (w : List (List Int)) : findM f a (f.lots.length - k) w = (permsL (lotAt f.lots k).ins.length).findSome? fun p => findM f a (f.lots.length - (k + 1)) (w ++ [p]) := by
 obtain ⟨m, hm⟩ : ∃ m, f.lots.length - k = m + 1 := ⟨f.lots.length - k - 1, by omega⟩
 rw [hm, show f.lots.length - (k + 1) = m by omega]
 simp only [findM]
 rw [show f.lots.length - (m + 1) = k by omega]
 unfold permsOf
 rw [if_neg (by simp [hkn])]
theorem some_at {α : Type} {L : List (List Int)} {g : List Int → Option α} : ∀ {i : Nat}, i < L.length → (∀ j, j < i → g (rowAt L j) = none) → ∀ {u}, g (rowAt L i) = some u → L.findSome? g = some u := by
 induction L with
 | nil => intro i hi; simp at hi
 | cons x L ih =>
  intro i hi hn u hu
  cases i with
  | zero =>
   have hx : g x = some u := hu
   simp [List.findSome?_cons, hx]
  | succ i =>
   have hx : g x = none := hn 0 (by omega)
   rw [List.findSome?_cons, hx]
   exact ih (i := i) (by simpa using hi) (fun j hj => hn (j + 1) (by omega)) hu
theorem none_at {α : Type} {L : List (List Int)} {g : List Int → Option α} (h : ∀ j, j < L.length → g (rowAt L j) = none) : L.findSome? g = none := by
 rw [List.findSome?_eq_none_iff]
 intro x hx
 obtain ⟨j, hj, rfl⟩ := memE_row hx
 exact h j hj
set_option maxHeartbeats 4000000 in
set_option maxRecDepth 100000 in
theorem find_last (E : EnvM) (hE : E.Ok) (hc : checkE E.f = 0) (hal : (E.a.length : Int) = E.f.senders) : FindC E E.f.lots.length := by
 intro W K v ws w hS hx hw ho hg
 have HS := Lib.hid hS
 have HL : Hid (findM E.f E.a (E.f.lots.length - E.f.lots.length) w = some w) := Lib.hid (by
  rw [Nat.sub_self]
  simp only [findM]
  rw [if_pos ((leads_good hc hal).2 hg)])
 have HX := Lib.hid hx
 obtain ⟨bL, offL, capL, ⟨aL, hvl, hL1, hL2, hL3⟩, hL4, hL5⟩ := hS.flow
 obtain ⟨vF0, A0, R0, M0, g1, g2, g3, g4, g5, g6, _⟩ := hS.lots.lay
 have hk2 := (checkE_ok hc).2.2.1
 have m1 := hS.cx.cell
 have m2 := g5.cell 0
 simp at m2
 rw [hvl] at m2
 clear g1 g2 g3 g4 g5 g6 hL3 hL5 hS hx
 go_enter Tryz.func26, Tryz.ntmps26
 go_upto_region 1 with fail
 refine wp_name (fun W1 hW1 => ?_)
 have HB1 : Hid (Below W.heap.size W W1) := Lib.hid (by rw [hW1]; exact (box_below' W _).trans ((box_below' _ _).mono (by simp)))
 have HCR : Hid (Cell1 W1 (W.heap.size + 1) (.bool false)) := Lib.hid (by
  rw [hW1]
  have h := Cell1.new (W.alloc (.cells #[.int .i64 (E.f.lots.length : Int)] 3)) (.bool false) 4
  rw [World.size_alloc] at h
  exact h)
 have m3 := (Box.new W #[.int .i64 (E.f.lots.length : Int)] 3)
 have HK1 : Hid (Box W1 W.heap.size #[.int .i64 (E.f.lots.length : Int)]) := Lib.hid (by rw [hW1]; exact (Box.new W _ _).alloc _)
 have m4 := HK1.out.2
 have m5 := (HS.out.ext hE HB1.out).cx.cell
 have m6 := (HB1.out.cell (p := ⟨E.q0, 0, none⟩) (by have := HS.out.sz; have := hE.x1; obtain ⟨_, _, _, _, g1, _⟩ := HS.out.lots.lay; show E.q0 < _; omega)).trans m2
 have fz := HCR.out.free
 have cc := HCR.out.cell
 have HST := Lib.hid (fun n => (HCR.out.below (B := W1.heap.size) (w' := W1.drewN n) (below_drewN (Below.refl _ _) _) HCR.out.lt).set (.bool true))
 have HBX := Lib.hid (fun n => (HB1.out.trans ((below_drewN (Below.refl _ W1) n).mono HB1.out.size)).setCell (p := ⟨W.heap.size + 1, 0, none⟩) (by show W.heap.size ≤ W.heap.size + 1; omega) (.bool true))
 clear hW1 m3 m2
 go_wp2
 go_quiet (fail)
 go_wp2
 have hcl := fun n => (HST.out n).cell
 refine bodyPost_ret (v := .bool true) (by simp [results, Tryz.results26, go_sem, hcl]) rfl ?_
 rw [HL.out]
 have key : ∀ n, FPost E K (fun q => q < E.B) v E.f.lots.length ws w W (some w) (.returned (.bool true)) ((W1.drewN n).setCell ⟨W.heap.size + 1, 0, none⟩ (.bool true)) := fun n => by
  have hS2 := HS.out.ext hE (HBX.out n)
  refine ⟨rfl, v, hS2, MapKeep.ext _ (HBX.out n), Turned.of_below (HBX.out n), fun g e => .inl e, fun u hu => ?_⟩
  cases hu
  obtain ⟨a, n, cap, e, _, hv⟩ := hS2.way
  obtain ⟨a', cap', e'⟩ := HX.out
  rw [e] at e'
  cases e'
  rw [e]
  exact ⟨ws, hv.mono (fun q hq _ => .inl hq)⟩
 exact key _
set_option maxHeartbeats 8000000 in
set_option maxRecDepth 100000 in
theorem find_step (E : EnvM) (hE : E.Ok) (hc : checkE E.f = 0) (hal : (E.a.length : Int) = E.f.senders) (ha64 : ∀ x ∈ E.a, I64 x) (k : Nat) (hk : k < E.f.lots.length) (hn : FindC E (k + 1)) : FindC E k := by
 intro W K v ws w hS hx hw ho hg
 have HS := Lib.hid hS
 have HX := Lib.hid hx
 have HNX := Lib.hid hn
 obtain ⟨h0, h64, hl2, hb5, hlo⟩ := checkE_ok hc
 have HLB := Lib.hid (lotB_parts (lotsB_lot hlo hk))
 have hsz := hS.sz
 obtain ⟨b, off, capL, ⟨aL, hvl, hL1, hL2, hL3⟩, hL4, hL5⟩ := hS.flow
 obtain rfl : aL = some ⟨b, off, none⟩ := by rcases hL3 with h | h; exact h; omega
 obtain ⟨vi, vk, vp, q1, q2, q3, hli, rfl, hlp⟩ := hL5 k hk
 obtain ⟨ai, ci, rfl⟩ := hli.form
 obtain ⟨ap, cp, rfl⟩ := hlp.form
 have HLP := Lib.hid hlp
 have HQ1 := Lib.hid q1
 have HQ2 := Lib.hid q2
 have HQ3 := Lib.hid q3
 obtain ⟨vF0, A0, R0, M0, g1, g2, g3, g4, g5, g6, _⟩ := hS.lots.lay
 have m1 := hS.cx.cell
 have m2 := g5.cell 0
 simp at m2
 rw [hvl] at m2
 have HM2 := Lib.hid m2
 have HQL : Hid (E.q0 < W.heap.size) := Lib.hid (by omega)
 have hni : (lotAt E.f.lots k).ins.length ≤ 50000 := ins_small hc hk
 have HNI := Lib.hid hni
 have hn1 : 1 ≤ (lotAt E.f.lots k).ins.length := by
  have h := HLB.out.1
  cases e : (lotAt E.f.lots k).ins with
  | nil => exact absurd e h
  | cons x l => simp
 have hmf := @run_makeFunc_any Tryz.prog
 clear g1 g2 g3 g4 g5 g6 hL3 hL5 hS hx hn q1 q2 q3 hli hlp m1 m2
 refine callsIn_wide.1 (callsIn_of_wp_marks (n := 11) Tryz.func26 rfl trivial (wpIn_wide.2 ?_))
 simp only [Tryz.ntmps26, List.size_toArray, List.length_cons, List.length_nil, Nat.reduceAdd, Nat.reduceSub, Array.replicate_succ, Array.replicate_zero, List.push_toArray, List.append_toArray, List.nil_append, List.cons_append]
 go_upto_region 1 with fail
 refine wp_name (fun W1 hW1 => ?_)
 have HB1 : Hid (Below W.heap.size W W1) := Lib.hid (by rw [hW1]; exact (box_below' W _).trans ((box_below' _ _).mono (by simp)))
 have HCR : Hid (Cell1 W1 (W.heap.size + 1) (.bool false)) := Lib.hid (by
  rw [hW1]
  have h := Cell1.new (W.alloc (.cells #[.int .i64 (k : Int)] 3)) (.bool false) 4
  rw [World.size_alloc] at h
  exact h)
 have HK1 : Hid (Box W1 W.heap.size #[.int .i64 (k : Int)]) := Lib.hid (by rw [hW1]; exact (Box.new W _ _).alloc _)
 have HZ1 : Hid (W1.heap.size = W.heap.size + 1 + 1) := Lib.hid (by rw [hW1]; simp)
 have HRD : Hid (∀ W', Below W1.heap.size W1 W' → W'.cell? ⟨E.cx, 0, none⟩ = some (.pointer (some ⟨E.q0, 0, none⟩)) ∧ W'.cell? ⟨E.q0, 0, none⟩ = some (.slice (some ⟨b, off, none⟩) E.f.lots.length capL) ∧ W'.cell? ⟨b, off + k * 3, none⟩ = some (.slice ai (lotAt E.f.lots k).ins.length ci) ∧ W'.cell? ⟨b, off + k * 3 + 1, none⟩ = some (.bool (lotAt E.f.lots k).known) ∧ W'.cell? ⟨b, off + k * 3 + 2, none⟩ = some (.slice ap (lotAt E.f.lots k).perm.length cp) ∧ W'.cell? ⟨W.heap.size, 0, none⟩ = some (.int .i64 (k : Int))) := Lib.hid (fun W' h => by
  have hb : Below W.heap.size W W' := HB1.out.trans (h.mono HB1.out.size)
  have h1 := hE.x1; have h2 := hE.o1; have h3 := hE.o2; have h4 := hE.o3
  have hBW : E.B ≤ W.heap.size := by omega
  refine ⟨(HS.out.ext hE hb).cx.cell, (hb.cell (p := ⟨E.q0, 0, none⟩) HQL.out).trans HM2.out, (HQ1.out.below (hb.mono hBW) (Nat.le_refl _)).2, (HQ2.out.below (hb.mono hBW) (Nat.le_refl _)).2, (HQ3.out.below (hb.mono hBW) (Nat.le_refl _)).2, ?_⟩
  have := (HK1.out.ext h).2 0
  simpa using this)
 have hne : ((k : Int) == (E.f.lots.length : Int)) = false := by simp; omega
 have hne2 : (k == E.f.lots.length) = false := by simp; omega
 obtain ⟨m1, m2, m3, m4, m5, m6⟩ := HRD.out W1 (Below.refl _ _)
 have HE := Lib.hid hE
 clear hW1 hE
 go_wp2
 go_quiet (fail)
 clear m1 m2 m3 m4 m5 m6
 go_upto_region 3 with fail
 refine wp_name (fun W2 hW2 => ?_)
 have HB2 : Hid (Below W1.heap.size W1 W2) := Lib.hid (by rw [hW2]; exact below_drewN (Below.refl _ _) _)
 have HZ2 : Hid (W2.heap.size = W.heap.size + 1 + 1) := Lib.hid (by rw [hW2]; exact HZ1.out)
 clear hW2
 go_upto_region 4 with fail
 refine wp_name (fun W3 hW3 => ?_)
 have HB3 : Hid (Below W1.heap.size W1 W3) := Lib.hid (by rw [hW3]; exact HB2.out.alloc HB2.out.size _)
 have HCT : Hid (Cell1 W3 W2.heap.size (.func (.func 27) #[] #[.pointer (some ⟨E.cx, 0, none⟩), .pointer (some ⟨W.heap.size, 0, none⟩), .pointer (some ⟨E.ca, 0, none⟩), .pointer (some ⟨E.cw, 0, none⟩), .pointer (some ⟨E.cf, 0, none⟩)])) := Lib.hid (by rw [hW3]; exact Cell1.new _ _ _)
 rw [HZ2.out] at HCT ⊢
 clear hW3 HB2 HZ2
 obtain ⟨m1, m2, m3, m4, m5, m6⟩ := HRD.out W3 HB3.out
 cases hkn : (lotAt E.f.lots k).known
 ·rw [hkn] at m4
  have HFU := Lib.hid (find_unk (a := E.a) hk hkn w)
  have HPM : Hid (∀ p, p ∈ permsL (lotAt E.f.lots k).ins.length → p ∈ permsOf (lotAt E.f.lots k)) := Lib.hid (fun p h => by unfold permsOf; rw [if_neg (by simp [hkn])]; exact h)
  go_wp2
  go_quiet (fail)
  clear m1 m2 m3 m4 m5 m6
  go_upto_region 6 with fail
  refine wp_name (fun W4 hW4 => ?_)
  have HB4 : Hid (Below W1.heap.size W1 W4) := Lib.hid (by rw [hW4]; exact HB3.out.trans (below_drewN (Below.refl _ _) _))
  have HCT4 : Hid (Cell1 W4 (W.heap.size + 1 + 1) (.func (.func 27) #[] #[.pointer (some ⟨E.cx, 0, none⟩), .pointer (some ⟨W.heap.size, 0, none⟩), .pointer (some ⟨E.ca, 0, none⟩), .pointer (some ⟨E.cw, 0, none⟩), .pointer (some ⟨E.cf, 0, none⟩)])) := Lib.hid (by rw [hW4]; exact HCT.out)
  clear hW4
  obtain ⟨m1, m2, m3, m4, m5, m6⟩ := HRD.out W4 HB4.out
  go_wp2
  go_still_tail 9, (by kernel_rfl)
  change wpList _ _ _ _ _ W4.drew
  go_wp2_with (go_at_call 28; refine (eperms_any _ _).mono ?_; rintro e W5 ⟨rfl, hW5⟩; have HW5 := Lib.hid hW5; clear hW5)
  have hW5 := HW5.out
  have HBW5 : Hid (Below W.heap.size W W5) := Lib.hid (by
   have h := HB1.out.trans (HB4.out.mono HB1.out.size)
   have h2 : Below W.heap.size W W4.drew := ⟨h.os, h.tape, h.output, h.size, h.block⟩
   rw [hW5]
   exact h2.alloc h2.size _)
  have HB15 : Hid (Below W1.heap.size W1 W5) := Lib.hid (by
   have h2 : Below W1.heap.size W1 W4.drew := ⟨HB4.out.os, HB4.out.tape, HB4.out.output, HB4.out.size, HB4.out.block⟩
   rw [hW5]
   exact h2.alloc h2.size _)
  have HCT5 : Hid (Cell1 W5 (W.heap.size + 1 + 1) (.func (.func 27) #[] #[.pointer (some ⟨E.cx, 0, none⟩), .pointer (some ⟨W.heap.size, 0, none⟩), .pointer (some ⟨E.ca, 0, none⟩), .pointer (some ⟨E.cw, 0, none⟩), .pointer (some ⟨E.cf, 0, none⟩)])) := Lib.hid (by rw [hW5]; exact Cell1.alloc (w := W4.drew) HCT4.out _)
  have HBN5 : Hid (Box W5 W4.heap.size #[.int .i64 ((lotAt E.f.lots k).ins.length : Int)]) := Lib.hid (by rw [hW5]; exact Box.new W4.drew _ _)
  have HZ4 : Hid (W.heap.size + 1 + 1 < W4.heap.size) := Lib.hid HCT4.out.lt
  have HZ5 : Hid (W5.heap.size = W4.heap.size + 1) := Lib.hid (by rw [hW5]; simp)
  obtain ⟨bn, hbn⟩ : ∃ x, W4.heap.size = x := ⟨_, rfl⟩
  try simp only [drew_size]
  rw [hbn] at HBN5 HZ4 HZ5 ⊢
  clear hW5 HW5 hbn m1 m2 m3 m4 m5 m6 HCT4
  obtain ⟨L, hL⟩ : ∃ x, permsL (lotAt E.f.lots k).ins.length = x := ⟨_, rfl⟩
  have HIT := Lib.hid (eperms_iter bn (lotAt E.f.lots k).ins.length W5 hn1 hni HBN5.out)
  rw [hL] at HIT HFU HPM
  have hsz5 := HBW5.out.size
  have HNUM : Hid (E.C ≤ W.heap.size ∧ E.bm < E.C ∧ E.cw < E.C ∧ E.B < E.C + 1 ∧ E.B ≤ E.bm ∧ E.B ≤ E.cw) := Lib.hid (by have h1 := HE.out.x1; have h2 := HE.out.o1; have h3 := HE.out.o2; have h4 := HE.out.o3; have h5 := HE.out.x3; omega)
  have HOW := Lib.hid HS.out.own
  have HNN := Lib.hid HS.out.nn
  obtain ⟨II, hII⟩ : ∃ I : Nat → Nat → World → Prop, I = (fun st i W' => ∃ v', FindS E K v' k ws w W' ∧ MapKeep W W' E.bm (beforeI E.f k) ∧ Turned (fun q => q = E.bm ∨ q = E.cw ∨ v.ownBlock = some q) W W' ∧ (∀ g, v'.ownBlock = some g → v.ownBlock = some g ∨ st ≤ g) ∧ Cell1 W' (W.heap.size + 1) (.bool false) ∧ Cell1 W' (W.heap.size + 1 + 1) (.func (.func 27) #[] #[.pointer (some ⟨E.cx, 0, none⟩), .pointer (some ⟨W.heap.size, 0, none⟩), .pointer (some ⟨E.ca, 0, none⟩), .pointer (some ⟨E.cw, 0, none⟩), .pointer (some ⟨E.cf, 0, none⟩)]) ∧ Box W' W.heap.size #[.int .i64 (k : Int)] ∧ ∀ j, j < i → findM E.f E.a (E.f.lots.length - (k + 1)) (w ++ [rowAt L j]) = none) := ⟨_, rfl⟩
  obtain ⟨IX, hIX⟩ : ∃ I : Code → Nat → Nat → World → Prop, I = (fun c st i W' => c = .ret ∧ ∃ v' u, FindS E K v' k ws w W' ∧ MapKeep W W' E.bm (beforeI E.f k) ∧ Turned (fun q => q = E.bm ∨ q = E.cw ∨ v.ownBlock = some q) W W' ∧ (∀ g, v'.ownBlock = some g → v.ownBlock = some g ∨ st ≤ g) ∧ Cell1 W' (W.heap.size + 1) (.bool true) ∧ WayAt (fun q => K q ∨ q < E.B ∨ st ≤ q) E.C W' v' u ∧ findM E.f E.a (E.f.lots.length - k) w = some u) := ⟨_, rfl⟩
  -- what the iterator's own blocks turn
  have HKP : Hid (∀ (X : Nat → Prop) (v' : Value) (A A' : World), FindS E K v' k ws w A → MapKeep W A E.bm (beforeI E.f k) → Turned (fun q => q = E.bm ∨ q = E.cw ∨ v.ownBlock = some q) W A → Turned X A A' → (∀ q, X q → W.heap.size ≤ q ∧ v'.ownBlock ≠ some q) →
    FindS E K v' k ws w A' ∧ MapKeep W A' E.bm (beforeI E.f k) ∧ Turned (fun q => q = E.bm ∨ q = E.cw ∨ v.ownBlock = some q) W A') := Lib.hid (fun X v' A A' h1 h2 h3 ht hX => by
   have hn := HNUM.out
   obtain ⟨al, m1, m2⟩ := h1.mp
   have m3 : ∀ al, IntMap A E.bm al → IntMap A' E.bm al := fun al h => h.turned ht (fun hx => by have := (hX _ hx).1; omega)
   refine ⟨h1.turnedW HE.out ht (fun q q1 q2 hx => by have := (hX _ hx).1; omega) (fun q q1 q2 q3 hx => by have := (hX _ hx).1; have := (HNN.out q q2).2; omega) (fun q e hx => (hX q hx).2 e) (m3 al m1) m2, fun al2 ha2 => ?_, h3.transE ht (fun q hq hx => by have := (hX _ hx).1; omega)⟩
   obtain ⟨al', a1, a2⟩ := h2 al2 ha2
   exact ⟨al', m3 al' a1, a2⟩)
  clear hL hsz5
  refine (wpIn_wide (n := 11)).1 ?_
  refine range_lawS (w := W5) rfl (enters_of Tryz.func49 (by kernel_rfl) rfl) HIT.out (Turned.refl _ _)
   (fun q hq => by rw [hq]; exact HBN5.out.1) (fun q => q = E.bm ∨ q = E.cw ∨ v.ownBlock = some q ∨ q = W.heap.size + 1) (fun q hq => by
    have hn := HNUM.out
    have hz := HZ4.out
    have hz5 := HZ5.out
    rcases hq with e | e | e | e
    ·omega
    ·omega
    ·have := (HOW.out q e).2; omega
    ·omega)
   (fun s i W' args h => by obtain ⟨vp, h, _⟩ := h; rw [h]; rfl) II IX ?hI ?hIx ?h0 ?hround ?hdone ?hstop
  case hI =>
   subst hII
   rintro st i A A' hs ⟨v', h1, h2, h3, h4, h5, h6, h7, h8⟩ ht
   have hz := HZ4.out
   have hz5 := HZ5.out
   obtain ⟨g1, g2, g3⟩ := HKP.out _ v' A A' h1 h2 h3 ht (fun q hq => ⟨by omega, fun e => by rcases h4 q e with e2 | e2; (have := (HOW.out q e2).2; omega); omega⟩)
   exact ⟨v', g1, g2, g3, h4, h5.turned ht (fun h => by omega), h6.turned ht (fun h => by omega), h7.turned ht (fun h => by omega), h8⟩
  case hIx =>
   subst hIX
   rintro c st i A A' hs ⟨rfl, v', u, h1, h2, h3, h4, h5, ⟨vals, hv⟩, h7⟩ ht
   have hz := HZ4.out
   have hz5 := HZ5.out
   have hn := HNUM.out
   have hno : ∀ q, v'.ownBlock = some q → ¬ (W5.heap.size ≤ q ∧ q < st) := fun q e h => by rcases h4 q e with e2 | e2; (have := (HOW.out q e2).2; omega); omega
   obtain ⟨g1, g2, g3⟩ := HKP.out _ v' A A' h1 h2 h3 ht (fun q hq => ⟨by omega, fun e => hno q e hq⟩)
   exact ⟨rfl, v', u, g1, g2, g3, h4, h5.turned ht (fun h => by omega), ⟨vals, hv.turned ht (fun q hq _ hx => by rcases hq with hq | hq | hq; (have := (HNN.out q hq).2; omega); omega; omega) hno⟩, h7⟩
  case h0 =>
   subst hII
   intro st W1' hs hs1 hb
   have hbw : Below W.heap.size W W1' := HBW5.out.trans (hb.mono HBW5.out.size)
   have hb15 : Below W1.heap.size W1 W1' := HB15.out.trans (hb.mono HB15.out.size)
   exact ⟨v, HS.out.ext HE.out hbw, MapKeep.ext _ hbw, Turned.of_below hbw, fun g e => .inl e, HCR.out.ext hb15, HCT5.out.ext hb, HK1.out.ext hb15, fun j hj => by omega⟩
  case hround =>
   subst hII
   subst hIX
   rintro l st i W' args hs hsW hi ⟨v', h1, h2, h3, h4, h5, h6, h7, h8⟩ ⟨vp, rfl, hvp⟩
   have hz := HZ4.out
   have hz5 := HZ5.out
   have hn := HNUM.out
   have HWS : Hid (st ≤ W'.heap.size) := Lib.hid hsW
   gi_wp2
   refine ⟨Below.refl _ _, fun W2 ht => ?_⟩
   have hno : ∀ q, v'.ownBlock = some q → ¬ (W5.heap.size ≤ q ∧ q < W5.heap.size + 2) := fun q e h => by rcases h4 q e with e2 | e2; (have := (HOW.out q e2).2; omega); omega
   obtain ⟨g1, g2, g3⟩ := HKP.out _ v' W' W2 h1 h2 h3 ht (fun q hq => ⟨by omega, fun e => hno q e hq⟩)
   have HK5 : Hid (Cell1 W2 (W.heap.size + 1) (.bool false)) := Lib.hid (h5.turned ht (fun h => by omega))
   have HK6 := Lib.hid (h6.turned ht (fun h => by omega))
   have HK7 := Lib.hid (h7.turned ht (fun h => by omega))
   have hov := hvp.turned ht (fun q hq h => by omega)
   have HS2 : Hid (st ≤ W2.heap.size) := Lib.hid (by have := ht.size; have := HWS.out; omega)
   have hpm : rowAt L i ∈ L := rowE_mem hi
   have HNO : Hid (∀ j, j < i → findM E.f E.a (E.f.lots.length - (k + 1)) (w ++ [rowAt L j]) = none) := Lib.hid h8
   have HSA := Lib.hid (fun u (h : findM E.f E.a (E.f.lots.length - (k + 1)) (w ++ [rowAt L i]) = some u) => some_at (g := fun p => findM E.f E.a (E.f.lots.length - (k + 1)) (w ++ [p])) hi h8 h)
   have HROW : Hid (∀ x, findM E.f E.a (E.f.lots.length - (k + 1)) (w ++ [rowAt L i]) = x → findM E.f E.a (E.f.lots.length - (k + 1)) (w ++ [rowAt L i]) = x) := Lib.hid (fun _ h => h)
   obtain ⟨p, hp⟩ : ∃ x, rowAt L i = x := ⟨_, rfl⟩
   have HPE := Lib.hid hp
   rw [hp] at hov hpm HSA
   have hvx : IsIntsX (fun q => (q < E.B ∨ (st ≤ q ∧ q < W2.heap.size)) ∧ v'.ownBlock ≠ some q) W2 vp p := by
    obtain ⟨a, n, cap, hve, _, hwv⟩ := g1.way
    have e3 : (Value.slice a k cap).ownBlock = v'.ownBlock := by rw [hve]; cases a <;> rfl
    have hap := hov.apartW hwv
    obtain ⟨b', o', c', e1, e2, e4, e5⟩ := hov.intsS
    refine ⟨b', o', c', e1, e2, e4, fun j hj => ?_⟩
    obtain ⟨x1, x2⟩ := e5 j hj
    have hlt := hov.ltX b' x1
    exact ⟨⟨.inr hlt, fun e => hap b' x1 (e3.trans e)⟩, hlt.2, x2⟩
   have HTRY := Lib.hid (try_any E HE.out k hk hc hal ha64 HNX.out W2 K (fun q => q < E.B ∨ (st ≤ q ∧ q < W2.heap.size)) v' ws w vp p W.heap.size g1 hw ho hg (HPM.out p hpm)
    (fun q hq => by have hs2 := HS2.out; rcases hq with hq | hq; exact ⟨.inl hq, by omega⟩; exact ⟨.inr (by omega), hq.2⟩) (fun q hq => .inl hq) hvx HK7.out hsz (fun e => by rcases h4 _ e with e2 | e2; (have := (HOW.out _ e2).2; omega); omega))
   have HG1 := Lib.hid g1
   have HG2 := Lib.hid g2
   have HG3 := Lib.hid g3
   have HOV : Hid (∀ g, v'.ownBlock = some g → v.ownBlock = some g ∨ st ≤ g) := Lib.hid h4
   have HNW : Hid (W5.heap.size + 2 ≤ st) := Lib.hid hs
   obtain ⟨a5, n5, c5, rfl⟩ := hov.form'
   have m7 := HK6.out.cell
   -- how the world behind the call stands to the others
   have HEND : Hid (∀ (r : Option (List (List Int))) e W3, FPost E K (fun q => q < E.B ∨ (st ≤ q ∧ q < W2.heap.size)) v' k ws w W2 r e W3 → ∃ v2, FindS E K v2 k ws w W3 ∧ MapKeep W W3 E.bm (beforeI E.f k) ∧ Turned (fun q => q = E.bm ∨ q = E.cw ∨ v.ownBlock = some q) W W3 ∧ Turned (fun q => (q = E.bm ∨ q = E.cw ∨ v.ownBlock = some q ∨ q = W.heap.size + 1) ∨ st ≤ q) W2 W3 ∧
     (∀ g, v2.ownBlock = some g → v.ownBlock = some g ∨ st ≤ g) ∧ Cell1 W3 (W.heap.size + 1) (.bool false) ∧ Cell1 W3 (W.heap.size + 1 + 1) (.func (.func 27) #[] #[.pointer (some ⟨E.cx, 0, none⟩), .pointer (some ⟨W.heap.size, 0, none⟩), .pointer (some ⟨E.ca, 0, none⟩), .pointer (some ⟨E.cw, 0, none⟩), .pointer (some ⟨E.cf, 0, none⟩)]) ∧ Box W3 W.heap.size #[.int .i64 (k : Int)] ∧ ∀ u, r = some u → WayAt (fun q => K q ∨ q < E.B ∨ st ≤ q) E.C W3 v2 u) := Lib.hid (by
    rintro r e W3 ⟨_, v2, q1, q2, q3, q4, q5⟩
    have hs2 := HS2.out
    have hw5 := HNW.out
    have hout : ∀ q, W.heap.size ≤ q → q < st → ¬ (q = E.bm ∨ q = E.cw ∨ v'.ownBlock = some q) := fun q a1 a2 h => by
     have hn := HNUM.out
     rcases h with h | h | h
     ·omega
     ·omega
     ·rcases HOV.out q h with e2 | e2
      ·have := (HOW.out q e2).2; omega
      ·omega
    refine ⟨v2, q1, fun al ha => ?_, HG3.out.transE q3 (fun q hq h => ?_), q3.mono (fun q _ h => ?_), fun g e => ?_, HK5.out.turned q3 (hout _ (by omega) (by omega)), HK6.out.turned q3 (hout _ (by omega) (by omega)), HK7.out.turned q3 (hout _ (by omega) (by omega)), fun u hu => ?_⟩
    ·obtain ⟨al1, a1, a2⟩ := HG2.out al ha
     obtain ⟨al2, b1, b2⟩ := q2 al1 a1
     exact ⟨al2, b1, fun x hx => (b2 x hx).trans (a2 x hx)⟩
    ·rcases h with h | h | h
     ·exact .inl h
     ·exact .inr (.inl h)
     ·rcases HOV.out q h with e2 | e2
      ·exact .inr (.inr e2)
      ·omega
    ·rcases h with h | h | h
     ·exact .inl (.inl h)
     ·exact .inl (.inr (.inl h))
     ·rcases HOV.out q h with e2 | e2
      ·exact .inl (.inr (.inr (.inl e2)))
      ·exact .inr e2
    ·rcases q4 g e with e2 | e2
     ·exact HOV.out g e2
     ·exact .inr (by omega)
    ·obtain ⟨vals, hv⟩ := q5 u hu
     refine ⟨vals, hv.mono (fun q hq _ => ?_)⟩
     rcases hq with hq | (hq | hq) | hq
     ·exact .inl hq
     ·exact .inr (.inl hq)
     ·exact .inr (.inr hq.1)
     ·exact .inr (.inr (by omega)))
   clear h1 h2 h3 h4 h5 h6 h7 h8 hvp hno ht g1 g2 g3 hov hvx hs hsW hn hpm hp
   cases hRR : findM E.f E.a (E.f.lots.length - (k + 1)) (w ++ [p]) with
   | none =>
    rw [hRR] at HTRY
    have HRN := Lib.hid hRR
    clear hRR
    gi_wp2_with (refine ⟨trivial, ?_⟩; gi_at_call 27; refine (CallsIn.inRound l (callsIn_wide.2 HTRY.out)).mono ?_; intro e W3 hpost; have HPO := Lib.hid (HEND.out _ _ _ hpost); have he : e = .returned (.bool false) := hpost.1; clear hpost; subst he)
    obtain ⟨v2, r1, r2, r3, r4, r5, r6, r7, r8, _⟩ := HPO.out
    refine ⟨r4, v2, r1, r2, r3, r5, r6, r7, r8, fun j hj => ?_⟩
    by_cases e : j = i
    ·subst e; rw [HPE.out]; exact HRN.out
    ·exact HNO.out j (by omega)
   | some u =>
    rw [hRR] at HTRY
    have HRN := Lib.hid (HSA.out u hRR)
    clear hRR
    gi_wp2_with (refine ⟨trivial, ?_⟩; gi_at_call 27; refine (CallsIn.inRound l (callsIn_wide.2 HTRY.out)).mono ?_; intro e W3 hpost; have HPO := Lib.hid (HEND.out _ _ _ hpost); have he : e = .returned (.bool true) := hpost.1; have hcr : Cell1 W3 (W.heap.size + 1) (.bool false) := (by obtain ⟨v2, r1, r2, r3, r4, r5, r6, _⟩ := HEND.out _ _ _ hpost; exact r6); have c6 := hcr.cell; have f6 := hcr.free; have HCR6 := Lib.hid hcr; clear hpost hcr; subst he)
    obtain ⟨v2, r1, r2, r3, r4, r5, r6, r7, r8, r9⟩ := HPO.out
    have ht4 : Turned (fun q => q = W.heap.size + 1) W3 (W3.setCell ⟨W.heap.size + 1, 0, none⟩ (.bool true)) := Turned.of_grown (grown_setCell W3 ⟨W.heap.size + 1, 0, none⟩ _) (fun q e => by simpa using e.symm)
    have hno4 : ∀ q, v2.ownBlock = some q → ¬ q = W.heap.size + 1 := fun q e e2 => by
     have hw5 := HNW.out
     rcases r5 q e with e3 | e3
     ·have := (HOW.out q e3).2; omega
     ·omega
    obtain ⟨s1, s2, s3⟩ := HKP.out _ v2 W3 _ r1 r2 r3 ht4 (fun q hq => ⟨by omega, fun e => hno4 q e hq⟩)
    obtain ⟨vals, hv⟩ := r9 u rfl
    refine ⟨r4.trans (ht4.mono (fun q _ e => .inl (.inr (.inr (.inr e))))), rfl, v2, u, s1, s2, s3, r5, HCR6.out.set _, ⟨vals, hv.other ht4 hno4 (fun q i z e => by subst e; exact HCR6.out.noInt i z)⟩, ?_⟩
    rw [HFU.out]
    exact HRN.out
  case hdone =>
   subst hII
   rintro d st W' hd hds hsW ⟨v', h1, h2, h3, h4, h5, h6, h7, h8⟩ hk
   have hz := HZ4.out
   have hz5 := HZ5.out
   have HD := Lib.hid hk
   have HC5 := Lib.hid h5
   have HALL : Hid (findM E.f E.a (E.f.lots.length - k) w = none) := Lib.hid (by rw [HFU.out]; exact none_at (g := fun p => findM E.f E.a (E.f.lots.length - (k + 1)) (w ++ [p])) h8)
   have HST : Hid (∃ v', FindS E K v' k ws w W' ∧ MapKeep W W' E.bm (beforeI E.f k) ∧ Turned (fun q => q = E.bm ∨ q = E.cw ∨ v.ownBlock = some q) W W' ∧ (∀ g, v'.ownBlock = some g → v.ownBlock = some g ∨ st ≤ g)) := Lib.hid ⟨v', h1, h2, h3, h4⟩
   have HDD : Hid (W5.heap.size ≤ d ∧ d < st) := Lib.hid ⟨hd, hds⟩
   have c6 := h5.cell
   have f6 := h5.free
   clear h1 h2 h3 h4 h5 h6 h7 h8 hk hd hds hsW
   go_wp2
   obtain ⟨v', h1, h2, h3, h4⟩ := HST.out
   have hdd := HDD.out
   have hdb : W.heap.size + 1 ≠ d := by omega
   have hK : (W'.setCell ⟨W.heap.size + 1, 0, none⟩ (.bool false)).heap[d]? = some (.deferred (some [])) := (Below.heap_setCell W' _ _ d (fun e => hdb e.symm)).trans HD.out
   refine ⟨by simp, .inl ⟨_, _, rfl, run_takeDeferred hK, ?_⟩⟩
   have hts : Turned (fun q => q = W.heap.size + 1 ∨ q = d) W' ((W'.setCell ⟨W.heap.size + 1, 0, none⟩ (.bool false)).putObj d (.deferred none)) :=
    (Turned.of_grown (grown_setCell W' ⟨W.heap.size + 1, 0, none⟩ (.bool false)) (fun q e => .inl (by simpa using e.symm))).trans (Turned.putObj _ _ _ (.inr rfl))
   have hcl : ((W'.setCell ⟨W.heap.size + 1, 0, none⟩ (.bool false)).putObj d (.deferred none)).cell? ⟨W.heap.size + 1, 0, none⟩ = some (.bool false) :=
    (World.cell?_of_block (World.putObj_heap_other (w := W'.setCell ⟨W.heap.size + 1, 0, none⟩ (.bool false)) hdb)).trans (HC5.out.set _).cell
   obtain ⟨s1, s2, s3⟩ := HKP.out _ v' W' _ h1 h2 h3 hts (fun q hq => ⟨by omega, fun e => by rcases h4 q e with e2 | e2; (have := (HOW.out q e2).2; omega); omega⟩)
   refine ⟨.bool false, by simp [results, Tryz.results26, go_sem, hcl], by rw [HALL.out]; rfl, v', s1, s2, s3, fun g e => by rcases h4 g e with e2 | e2; exact .inl e2; exact .inr (by omega), fun u hu => by rw [HALL.out] at hu; cases hu⟩
  case hstop =>
   subst hIX
   rintro d st i c W' hd hds hsW hi ⟨rfl, v', u, h1, h2, h3, h4, h5, ⟨vals, hv⟩, h7⟩ hk
   have hz := HZ4.out
   have hz5 := HZ5.out
   gi_wp2
   have hdb : W.heap.size + 1 ≠ d := by omega
   refine ⟨by simp, .inl ⟨_, _, rfl, run_takeDeferred hk, ?_⟩⟩
   have hts : Turned (fun q => q = d) W' (W'.putObj d (.deferred none)) := Turned.putObj _ _ _ rfl
   have hcl := (h5.turned hts hdb).cell
   have hno : ∀ q, v'.ownBlock = some q → ¬ q = d := fun q e e2 => by rcases h4 q e with e3 | e3; (have := (HOW.out q e3).2; omega); omega
   obtain ⟨s1, s2, s3⟩ := HKP.out _ v' W' _ h1 h2 h3 hts (fun q hq => ⟨by omega, fun e => hno q e hq⟩)
   refine ⟨.bool true, by simp [results, Tryz.results26, go_sem, hcl], by rw [h7]; rfl, v', s1, s2, s3, fun g e => by rcases h4 g e with e2 | e2; exact .inl e2; exact .inr (by omega), fun u' hu => ?_⟩
   rw [h7] at hu
   cases hu
   exact ⟨vals, (hv.turned hts (fun q hq _ e => by rcases hq with hq | hq | hq; (have := (HNN.out q hq).2; omega); (have := HNUM.out; omega); omega) hno).mono (fun q hq _ => by rcases hq with hq | hq | hq; exact .inl hq; exact .inr (.inl hq); exact .inr (.inr (by omega)))⟩
 ·rw [hkn] at m4
  go_wp2
  go_quiet (fail)
  clear m1 m2 m3 m4 m5 m6
  go_upto_region 5 with fail
  refine wp_name (fun W4 hW4 => ?_)
  have HB4 : Hid (Below W1.heap.size W1 W4) := Lib.hid (by rw [hW4]; exact HB3.out.trans (below_drewN (Below.refl _ _) _))
  have HCT4 : Hid (Cell1 W4 (W.heap.size + 1 + 1) (.func (.func 27) #[] #[.pointer (some ⟨E.cx, 0, none⟩), .pointer (some ⟨W.heap.size, 0, none⟩), .pointer (some ⟨E.ca, 0, none⟩), .pointer (some ⟨E.cw, 0, none⟩), .pointer (some ⟨E.cf, 0, none⟩)])) := Lib.hid (by rw [hW4]; exact HCT.out)
  clear hW4
  obtain ⟨m1, m2, m3, m4, m5, m6⟩ := HRD.out W4 HB4.out
  have m7 := HCT4.out.cell
  have HBW5 : Hid (Below W.heap.size W W4.drew) := Lib.hid (by have h := HB1.out.trans (HB4.out.mono HB1.out.size); exact ⟨h.os, h.tape, h.output, h.size, h.block⟩)
  have HK5 : Hid (Box W4.drew W.heap.size #[.int .i64 (k : Int)]) := Lib.hid (HK1.out.ext (w' := W4.drew) ⟨HB4.out.os, HB4.out.tape, HB4.out.output, HB4.out.size, HB4.out.block⟩)
  have HR5 : Hid (Cell1 W4.drew (W.heap.size + 1) (.bool false)) := Lib.hid (HCR.out.ext (w' := W4.drew) ⟨HB4.out.os, HB4.out.tape, HB4.out.output, HB4.out.size, HB4.out.block⟩)
  have HTRY := Lib.hid (try_any E HE.out k hk hc hal ha64 HNX.out W4.drew K (fun q => q < E.B) v ws w (.slice ap (lotAt E.f.lots k).perm.length cp) (lotAt E.f.lots k).perm W.heap.size (HS.out.ext HE.out HBW5.out) hw ho hg (by unfold permsOf; rw [if_pos hkn]; simp)
   (fun q hq => ⟨.inl hq, by have := HBW5.out.size; have h1 := HE.out.x1; have h2 := HE.out.o1; have h3 := HE.out.o2; have h4 := HE.out.o3; omega⟩) (fun q hq => hq)
   ((HLP.out.below (HBW5.out.mono (by have h1 := HE.out.x1; have h2 := HE.out.o1; have h3 := HE.out.o2; have h4 := HE.out.o3; omega)) (Nat.le_refl _)).kind (by have := HBW5.out.size; have h1 := HE.out.x1; have h2 := HE.out.o1; have h3 := HE.out.o2; have h4 := HE.out.o3; omega) (fun q hq => ⟨hq, fun e => by have := (HS.out.own q e).1; have h1 := HE.out.x1; have h2 := HE.out.o1; have h3 := HE.out.o2; have h4 := HE.out.o3; omega⟩))
   HK5.out hsz (fun e => by have := (HS.out.own _ e).2; omega))
  rw [← find_known hk hkn w] at HTRY
  go_wp2
  go_still_tail 9, (by kernel_rfl)
  change wpList _ _ _ _ _ W4.drew
  go_wp2_with (go_at_call 27; refine HTRY.out.mono ?_; intro e W6 hpost; have HPO := Lib.hid hpost; have he := hpost.1; have hR6 : Cell1 W6 (W.heap.size + 1) (.bool false) := (by obtain ⟨_, _, _, _, h3, _⟩ := hpost; exact HR5.out.turned h3 (fun e => by have h1 := HE.out.x3; have h2 := HE.out.o2; have h3 := HE.out.o3; rcases e with e | e | e; omega; omega; (have := (HS.out.own _ e).2; omega))); have HR6 := Lib.hid hR6; have r6 := hR6.cell; have f6 := hR6.free; clear hpost hR6; subst he)
  have hcl := (HR6.out.set (.bool (findM E.f E.a (E.f.lots.length - k) w).isSome)).cell
  refine ⟨.bool (findM E.f E.a (E.f.lots.length - k) w).isSome, by simp [results, Tryz.results26, go_sem, hcl], ?_⟩
  exact FPost.wrap HE.out (X := fun q => q = W.heap.size + 1) HS.out HBW5.out HPO.out (Turned.of_grown (grown_setCell W6 ⟨W.heap.size + 1, 0, none⟩ _) (fun q e => by simpa using e.symm)) (fun q e => by subst e; exact ⟨by omega, HR5.out.lt, fun i z => HR6.out.noInt i z⟩)
end Go.Proofs.YteiaeaciaglmgaaGreat
namespace Go.Proofs.YteiaeaciaglmgaaGreat
open Go.RowKit
attribute [local go_sem] run_store_func
theorem find_all (E : EnvM) (hE : E.Ok) (hc : checkE E.f = 0) (hal : (E.a.length : Int) = E.f.senders) (ha64 : ∀ x ∈ E.a, I64 x) : ∀ m, m ≤ E.f.lots.length → FindC E (E.f.lots.length - m)
 | 0, _ => by rw [Nat.sub_zero]; exact find_last E hE hc hal
 | m + 1, hm => by
  refine find_step E hE hc hal ha64 _ (by omega) ?_
  rw [show E.f.lots.length - (m + 1) + 1 = E.f.lots.length - m by omega]
  exact find_all E hE hc hal ha64 m (by omega)
/-- the ends of the first i senders -/
def begX (zs : List Int) : Nat → AL
 | 0 => []
 | i + 1 => aset (begX zs i) (i : Int) (.int .i64 (nth zs i))
theorem beg_at {zs : List Int} : ∀ {i t : Nat}, t < i → alook (begX zs i) (t : Int) = some (.int .i64 (nth zs t))
 | i + 1, t, h => by
  simp only [begX]
  rw [alook_aset]
  by_cases e : t = i
  ·subst e; rw [if_pos rfl]
  ·rw [if_neg (by omega), beg_at (by omega)]
theorem make_bad {f : Flow} {zs : List Int} (he : errX f zs = 0) {i : Nat} (hi : i < zs.length) (hl : leadE f (i : Int) (nth zs i) = false) : makeB f zs = false ∧ makeR f zs = [] := by
 obtain ⟨hc, _, ha⟩ := errX_ok he
 obtain ⟨h0, _, _, h5, hlo⟩ := checkE_ok hc
 have hm := beforeI_mono (f := f) (Nat.zero_le f.lots.length)
 have hb : beforeI f 0 = f.senders := rfl
 rw [lead_rAt hc (by omega) (by omega)] at hl
 have h : makeO f zs = none := by
  unfold makeO
  rw [if_pos he]
  have := find_none (a := zs) hc ha (m := f.lots.length) (w := []) (Nat.le_refl _) (by simp) (fun j hj => by omega) (fun hg => by
   rw [Nat.sub_self] at hg
   have := hg i (by omega)
   rw [pos_zero, hl] at this
   cases this)
  exact this
 unfold makeB makeR
 rw [h]
 exact ⟨rfl, rfl⟩
theorem make_good {f : Flow} {zs : List Int} (he : errX f zs = 0) (h : ∀ i, i < zs.length → leadE f (i : Int) (nth zs i) = true) : GoodAt f zs [] 0 := by
 obtain ⟨hc, _, ha⟩ := errX_ok he
 obtain ⟨h0, _, _, h5, hlo⟩ := checkE_ok hc
 have hm := beforeI_mono (f := f) (Nat.zero_le f.lots.length)
 have hb : beforeI f 0 = f.senders := rfl
 intro i hi
 have := h i (by omega)
 rw [lead_rAt hc (by omega) (by omega)] at this
 exact this
set_option maxHeartbeats 8000000 in
set_option maxRecDepth 100000 in
/-- explain.Make -/
theorem emake_any (B : Nat) (w : World) (vs vl va : Value) (f : Flow) (zs : List Int) (hf : IsFlow B w vs vl f) (hx : IsInts B w va zs) (hB : B ≤ w.heap.size) :
  Calls Tryz.prog 8 #[.agg #[vs, vl], va] w fun e w' => ∃ v, e = .returned (.tuple #[v, .bool (makeB f zs), .int .i64 (errX f zs)]) ∧ IsMat w'.heap.size w' v (makeR f zs) ∧ Below w.heap.size w w' := by
 have HF := Lib.hid hf
 have HZ := Lib.hid hx
 obtain ⟨rfl, ⟨hs1, hs2⟩, hl⟩ := hf
 obtain ⟨b, off, cap, ⟨a, rfl, hcap, hmax, ha⟩, hlen, hc⟩ := hl
 obtain ⟨az, cz, rfl⟩ := hx.form
 obtain ⟨ER, hER⟩ : ∃ x, errX f zs = x := ⟨_, rfl⟩
 have HER := Lib.hid hER
 obtain ⟨MB, hMB⟩ : ∃ x, makeB f zs = x := ⟨_, rfl⟩
 obtain ⟨MR, hMR⟩ : ∃ x, makeR f zs = x := ⟨_, rfl⟩
 have HMB := Lib.hid hMB
 have HMR := Lib.hid hMR
 rw [hER, hMB, hMR]
 have hmm := @run_makeMap Tryz.prog
 have hmf := @run_makeFunc_any Tryz.prog
 clear hc ha hx hER hMB hMR
 go_enter Tryz.func8, Tryz.ntmps8
 go_upto_region 1 with fail
 refine wp_name (fun W1 hW1 => ?_)
 have HX1 : Hid (Box W1 w.heap.size #[.int .i64 f.senders, .slice a f.lots.length cap]) := Lib.hid (by rw [hW1]; exact (Box.new w #[.int .i64 f.senders, .slice a f.lots.length cap] 24).alloc _)
 have HW1 : Hid (Below w.heap.size w W1) := Lib.hid (by rw [hW1]; exact (box_below' w _).trans ((box_below' _ _).mono (by simp)))
 have HR1 : Hid (Cell1 W1 (w.heap.size + 1) (.slice none 0 0)) := Lib.hid (by
  rw [hW1]
  have h := Cell1.new (w.alloc (.cells #[.int .i64 f.senders, .slice a f.lots.length cap] 24)) (.slice none 0 0) 35
  rw [World.size_alloc] at h
  exact h)
 clear hW1
 have x1 := HX1.out.2
 have HCH := Lib.hid (echeck_any B W1 _ _ _ f zs (HF.out.below HW1.out hB) (HZ.out.below HW1.out hB) (Nat.le_trans hB HW1.out.size))
 rw [HER.out] at HCH
 go_wp2_with fail
 refine HCH.out.mono ?_
 rintro e W2 ⟨rfl, hb2⟩
 have HB2 := Lib.hid hb2
 clear hb2
 have HX2 := Lib.hid (HX1.out.ext HB2.out)
 have HW2 : Hid (Below w.heap.size w W2) := Lib.hid (HW1.out.trans (HB2.out.mono HW1.out.size))
 have HR2 := Lib.hid (HR1.out.ext HB2.out)
 have x2 := HX2.out.2
 clear x1
 by_cases he : ER = 0
 ·have he1 : (ER != 0) = false := by simpa using he
  have hck0 : errX f zs = 0 := by rw [HER.out]; exact he
  obtain ⟨hc, hwy, hal⟩ := errX_ok hck0
  have HCK := Lib.hid hck0
  have HAL := Lib.hid hal
  clear hal
  obtain ⟨h0, h64, hl2, hb5, hlo⟩ := checkE_ok hc
  have HNL := Lib.hid (newLots_any B W2 _ _ f (HF.out.below HW2.out hB) (Nat.le_trans hB HW2.out.size) hc)
  have HEZ := Lib.hid he
  clear he
  go_upto_region 6 with (go_at_call 24; refine HNL.out.mono ?_; rintro e W3 ⟨q0, rfl, hlots, hb3⟩; have HLO := Lib.hid hlots; have HB23 := Lib.hid hb3; clear hlots hb3)
  refine wp_name (fun W5 hW5 => ?_)
  have HBX5 : Hid (Below W3.heap.size W3 W5) := Lib.hid (by rw [hW5]; exact (((box_below' W3 _).alloc (by simp) _).alloc (by simp; omega) _))
  have HCX : Hid (Cell1 W5 W3.heap.size (.pointer (some ⟨q0, 0, none⟩))) := Lib.hid (by rw [hW5]; exact ((Cell1.new W3 _ _).alloc _).alloc _)
  have HCA : Hid (Cell1 W5 (W3.heap.size + 1 + 1) (.map (some (W3.heap.size + 1)))) := Lib.hid (by
   rw [hW5]
   have h := Cell1.new ((W3.alloc (.cells #[.pointer (some ⟨q0, 0, none⟩)] 55)).alloc (.map #[] 0)) (.map (some (W3.heap.size + 1))) 57
   simp only [World.size_alloc] at h
   exact h)
  have HM5 : Hid (IntMap W5 (W3.heap.size + 1) []) := Lib.hid (by
   rw [hW5]
   have h := IntMap.made (W3.alloc (.cells #[.pointer (some ⟨q0, 0, none⟩)] 55))
   rw [World.size_alloc] at h
   exact h.alloc _)
  have HZ5 : Hid (W5.heap.size = W3.heap.size + 1 + 1 + 1) := Lib.hid (by rw [hW5]; simp)
  have HLO5 := Lib.hid (HLO.out.ext HBX5.out)
  have HW3 : Hid (Below w.heap.size w W3) := Lib.hid (HW2.out.trans (HB23.out.mono HW2.out.size))
  have HW5 : Hid (Below w.heap.size w W5) := Lib.hid (HW3.out.trans (HBX5.out.mono HW3.out.size))
  have HR5 := Lib.hid ((HR2.out.ext HB23.out).ext HBX5.out)
  have HNUM : Hid (w.heap.size + 1 < W2.heap.size ∧ W2.heap.size ≤ W3.heap.size) := Lib.hid ⟨HR2.out.lt, HB23.out.size⟩
  obtain ⟨s3, hs3⟩ : ∃ x, W3.heap.size = x := ⟨_, rfl⟩
  rw [hs3] at HCX HCA HM5 HZ5 HLO5 HNUM ⊢
  clear hW5 hs3 HLO HBX5 HB23 HX2 HX1 HR1 x2
  obtain ⟨bz, oz, cz', ⟨az', haz, hz1, hz2, hz3⟩, hz4, hz64, hzc⟩ := HZ.out
  obtain ⟨rfl, rfl⟩ : az = az' ∧ cz = cz' := by simpa using haz
  have HZC := Lib.hid hzc
  have HZ3 := Lib.hid hz3
  have HZ64 := Lib.hid hz64
  clear haz hz3 hz64 hzc
  go_wp2_with fail
  go_loopw [24] (fun i' wr => ∃ i : Nat, i ≤ zs.length ∧ i' = .int .i64 (i : Nat) ∧ Turned (fun q => q = s3 + 1) W5 wr ∧ IntMap wr (s3 + 1) (begX zs i) ∧ ∀ j, j < i → leadE f (j : Int) (nth zs j) = true) (fun i' _ => zs.length - (intOf i').toNat)
  case atStart => exact ⟨0, by omega, rfl, Turned.refl _ _, HM5.out, fun j hj => by omega⟩
  case round =>
   obtain ⟨i, hi, rfl, ht, hm, hled⟩ := hrel
   have HT := Lib.hid ht
   have HM := Lib.hid hm
   have HLED := Lib.hid hled
   have hnu := HNUM.out
   have c2 := (HCX.out.turned ht (by omega)).cell
   have c3 := (HCA.out.turned ht (by omega)).cell
   by_cases hil : i < zs.length
   ·obtain rfl : az = some ⟨bz, oz, none⟩ := by rcases HZ3.out with h | h; exact h; omega
    have hbz := (HZC.out i hil).1
    have c1 := (ht.cell (p := ⟨bz, oz + i, none⟩) (by have := HW5.out.size; show bz < _; omega) (fun e => by have e2 : bz = s3 + 1 := e; omega)).trans ((HW5.out.cell (p := ⟨bz, oz + i, none⟩) (by show bz < _; omega)).trans (HZC.out i hil).2)
    have HBG : Hid (begX zs (i + 1) = aset (begX zs i) (i : Int) (.int .i64 (nth zs i))) := Lib.hid rfl
    have HBAD := Lib.hid (fun h => make_bad (i := i) HCK.out hil h)
    obtain ⟨x, hx⟩ : ∃ x, nth zs i = x := ⟨_, rfl⟩
    have HXE := Lib.hid hx
    rw [hx] at c1 HBG HBAD
    obtain ⟨LE, hLE⟩ : ∃ y, leadE f (i : Int) x = y := ⟨_, rfl⟩
    have HLE := Lib.hid hLE
    rw [hLE] at HBAD
    have HTU : Hid (∀ w8, wr.grownBy w8 (some (s3 + 1)) → Turned (fun q => q = s3 + 1) W5 w8) := Lib.hid (fun w8 h => HT.out.trans (Turned.of_grown h (fun q e => by simpa using e.symm)))
    clear hx hLE ht hm hled hbz hnu
    cases LE
    ·obtain ⟨hb1, hb2⟩ := HBAD.out rfl
     rw [HMB.out] at hb1
     rw [HMR.out] at hb2
     go_wp2_with (first
      | (at_mapUpdate; refine wpList_update_ints (x := (i : Int)) (v := .int .i64 x) rfl _ _ _ rfl Tryz.underlying57 Tryz.underlying3 rfl HM.out rfl rfl ?_; intro w8 hs8 hg8 hz8; have HS8 := Lib.hid hs8; have HT8 := Lib.hid (HTU.out w8 hg8); clear hs8 hg8 hz8; have n2 := (HCX.out.turned HT8.out (by have := HNUM.out; omega)).cell)
      | (go_at_call 25; refine (leads_any _ _ _ q0 _ f _ _ (HLO5.out.turned HT8.out (fun q a1 a2 e => by omega)) hc).mono ?_; rintro e w9 ⟨rfl, rfl⟩; rw [HLE.out]; have HR8 := Lib.hid (HR5.out.turned HT8.out (by have := HNUM.out; omega)); have r8 := HR8.out.cell; have f8 := HR8.out.free; have hcl := (HR8.out.set (.slice none 0 0)).cell))
     refine bodyPost_ret (v := .tuple #[.slice none 0 0, .bool false, .int .i64 0]) (by simp [results, Tryz.results8, go_sem, hcl]) rfl ?_
     rw [hb1, hb2]
     exact ⟨.slice none 0 0, by rw [HEZ.out], ⟨0, 0, 0, ⟨none, rfl, Nat.le_refl _, by omega, .inr rfl⟩, by simp, fun j hj => by simp at hj⟩, (HW5.out.trans (HT8.out.below HW5.out.size (fun q hq e => by have := HNUM.out; omega))).setCell (p := ⟨w.heap.size + 1, 0, none⟩) (by show w.heap.size ≤ w.heap.size + 1; omega) _⟩
    ·go_wp2_with (first
      | (at_mapUpdate; refine wpList_update_ints (x := (i : Int)) (v := .int .i64 x) rfl _ _ _ rfl Tryz.underlying57 Tryz.underlying3 rfl HM.out rfl rfl ?_; intro w8 hs8 hg8 hz8; have HS8 := Lib.hid hs8; have HT8 := Lib.hid (HTU.out w8 hg8); clear hs8 hg8 hz8; have n2 := (HCX.out.turned HT8.out (by have := HNUM.out; omega)).cell)
      | (go_at_call 25; refine (leads_any _ _ _ q0 _ f _ _ (HLO5.out.turned HT8.out (fun q a1 a2 e => by omega)) hc).mono ?_; rintro e w9 ⟨rfl, rfl⟩; rw [HLE.out]))
     go_roundw
     case rel =>
      refine ⟨i + 1, by omega, by go_num, HT8.out, by rw [HBG.out]; exact HS8.out, fun j hj => ?_⟩
      by_cases e : j = i
      ·subst e; rw [HXE.out]; exact HLE.out
      ·exact HLED.out j (by omega)
     case measure => simp [intOf]; omega
   ·obtain rfl : i = zs.length := by omega
    obtain ⟨W6, hW6⟩ : ∃ x, wr = x := ⟨_, rfl⟩
    rw [hW6] at HT HM ⊢
    have HLO6 := Lib.hid (HLO5.out.turned HT.out (fun q a1 a2 e => by omega))
    have HCX6 := Lib.hid (HCX.out.turned HT.out (by omega))
    have HCA6 := Lib.hid (HCA.out.turned HT.out (by omega))
    have HR6 := Lib.hid (HR5.out.turned HT.out (by omega))
    have HW6 : Hid (Below w.heap.size w W6) := Lib.hid (HW5.out.trans (HT.out.below HW5.out.size (fun q hq e => by omega)))
    have HZ6 : Hid (s3 + 1 + 1 + 1 ≤ W6.heap.size) := Lib.hid (by have := HT.out.size; have := HZ5.out; omega)
    clear hW6 ht hm hled hnu c2 c3
    go_upto_region 15 with fail
    refine wp_name (fun W8 hW8 => ?_)
    have HB8 : Hid (Below W6.heap.size W6 W8) := Lib.hid (by rw [hW8]; exact box_below' W6 _)
    have HCF : Hid (Cell1 W8 W6.heap.size (.func (.func 26) #[] #[.pointer (some ⟨s3, 0, none⟩), .pointer (some ⟨s3 + 1 + 1, 0, none⟩), .pointer (some ⟨w.heap.size + 1, 0, none⟩), .pointer (some ⟨W6.heap.size, 0, none⟩)])) := Lib.hid (by rw [hW8]; exact Cell1.new W6 _ _)
    have HZ8 : Hid (W8.heap.size = W6.heap.size + 1) := Lib.hid (by rw [hW8]; simp)
    clear hW8
    have hnu := HNUM.out
    have hz6 := HZ6.out
    have hz8 := HZ8.out
    have hE : EnvM.Ok ⟨B, W8.heap.size, W2.heap.size, s3, s3, q0, s3 + 1 + 1, s3 + 1, w.heap.size + 1, W6.heap.size, .slice a f.lots.length cap, f, zs⟩ :=
     ⟨by show B ≤ w.heap.size + 1; omega, hnu.1, hnu.2, ⟨Nat.le_refl _, by show s3 < W8.heap.size; omega⟩, ⟨by show s3 ≤ s3 + 1 + 1; omega, by show s3 + 1 + 1 < W8.heap.size; omega⟩, ⟨by show s3 ≤ s3 + 1; omega, by show s3 + 1 < W8.heap.size; omega⟩, ⟨by show s3 ≤ W6.heap.size; omega, by show W6.heap.size < W8.heap.size; omega⟩, ⟨by show s3 + 1 ≠ s3; omega, by show s3 + 1 ≠ s3 + 1 + 1; omega, by show s3 + 1 ≠ W6.heap.size; omega⟩⟩
    have HWB8 : Hid (Below w.heap.size w W8) := Lib.hid (HW6.out.trans (HB8.out.mono HW6.out.size))
    have hS : FindS ⟨B, W8.heap.size, W2.heap.size, s3, s3, q0, s3 + 1 + 1, s3 + 1, w.heap.size + 1, W6.heap.size, .slice a f.lots.length cap, f, zs⟩ (fun _ => False) (.slice none 0 0) 0 [] [] W8 :=
     ⟨HLO6.out.ext HB8.out, (HF.out.below HWB8.out hB).2.2, HCX6.out.ext HB8.out, HCA6.out.ext HB8.out, HCF.out, HR6.out.ext HB8.out, ⟨none, 0, 0, rfl, ⟨Nat.le_refl _, Nat.le_refl _⟩, WayV.nil⟩, ⟨_, HM.out.ext HB8.out, fun t ht => by rw [pos_zero]; exact beg_at (by have hal' := HAL.out; have ht' : t < f.senders.toNat := ht; omega)⟩, Nat.le_refl _, fun q hq => hq.elim⟩
    have hfa := find_all _ hE hc HAL.out HZ64.out f.lots.length (Nat.le_refl _)
    have h00 : f.lots.length - f.lots.length = 0 := Nat.sub_self _
    have hfa2 := hfa W8 (fun _ => False) (.slice none 0 0) [] []
    simp only [h00] at hfa2
    have HFI := Lib.hid (hfa2 hS ⟨none, 0, rfl⟩ rfl (fun j hj => by omega) (make_good HCK.out HLED.out))
    have HMO : Hid (makeO f zs = findM f zs (f.lots.length - 0) []) := Lib.hid (by unfold makeO; rw [if_pos HCK.out, Nat.sub_zero])
    have n1 := HCF.out.cell
    have HEE := Lib.hid hE
    clear hfa hfa2 hS hnu hz6 hz8 hE h00
    obtain ⟨RR, hRR⟩ : ∃ r, findM f zs (f.lots.length - 0) [] = r := ⟨_, rfl⟩
    have hFI2 := HFI.out
    change Calls _ _ _ _ (FPost _ _ _ _ _ _ _ _ (findM f zs (f.lots.length - 0) [])) at hFI2
    rw [hRR] at hFI2
    rw [hRR] at HMO
    have HFJ := Lib.hid hFI2
    have HPW : Hid (∀ r e W9, FPost ⟨B, W8.heap.size, W2.heap.size, s3, s3, q0, s3 + 1 + 1, s3 + 1, w.heap.size + 1, W6.heap.size, .slice a f.lots.length cap, f, zs⟩ (fun _ => False) (fun q => q < B) (.slice none 0 0) 0 [] [] W8 r e W9 → ∃ a n cp, Cell1 W9 (w.heap.size + 1) (.slice a n cp) ∧ Below w.heap.size w W9 ∧ ∀ u, r = some u → WayAt (fun q => q < B ∨ W8.heap.size ≤ q) W8.heap.size W9 (.slice a n cp) u) := Lib.hid (by
     rintro r e W9 ⟨_, v', q1, _, q3, _, q5⟩
     obtain ⟨a, n, cp, rfl, _, _⟩ := q1.way
     refine ⟨a, n, cp, q1.cw, HWB8.out.trans (q3.below HWB8.out.size (fun q hq h => ?_)), fun u hu => ?_⟩
     ·have hnu := HNUM.out
      rcases h with h | h | h
      ·have h : q = s3 + 1 := h; omega
      ·have h : q = w.heap.size + 1 := h; omega
      ·cases h
     ·obtain ⟨vals, hv⟩ := q5 u hu
      exact ⟨vals, hv.mono (fun q hq _ => by rcases hq with hq | hq | hq; exact hq.elim; exact .inl hq; exact .inr hq)⟩)
    have HBR : Hid (B < w.heap.size + 1 ∧ w.heap.size + 1 < W8.heap.size) := Lib.hid (by have := HNUM.out; have := HZ6.out; have := HZ8.out; omega)
    clear hFI2 hRR HFI
    cases RR with
    | none =>
     have hb1 : MB = false := by rw [← HMB.out]; unfold makeB; rw [HMO.out]; rfl
     have hb2 : MR = [] := by rw [← HMR.out]; unfold makeR; rw [HMO.out]; rfl
     go_wp2_with (go_at_call 26; refine HFJ.out.mono ?_; intro e W9 hpost; obtain ⟨a9, n9, cp9, hcw, hbw, hres⟩ := HPW.out _ _ _ hpost; have he : e = .returned (.bool false) := hpost.1; have HCW := Lib.hid hcw; have HBW := Lib.hid hbw; have r9 := hcw.cell; have f9 := hcw.free; have hcl := (hcw.set (.slice none 0 0)).cell; clear hpost hcw hbw hres; subst he)
     refine bodyPost_ret (v := .tuple #[.slice none 0 0, .bool false, .int .i64 0]) (by simp [results, Tryz.results8, go_sem, hcl]) rfl ?_
     rw [hb1, hb2]
     exact ⟨.slice none 0 0, by rw [HEZ.out], ⟨0, 0, 0, ⟨none, rfl, Nat.le_refl _, by omega, .inr rfl⟩, by simp, fun j hj => by simp at hj⟩, HBW.out.setCell (p := ⟨w.heap.size + 1, 0, none⟩) (by show w.heap.size ≤ w.heap.size + 1; omega) _⟩
    | some u =>
     have hb1 : MB = true := by rw [← HMB.out]; unfold makeB; rw [HMO.out]; rfl
     have hb2 : MR = u := by rw [← HMR.out]; unfold makeR; rw [HMO.out]; rfl
     go_wp2_with (go_at_call 26; refine HFJ.out.mono ?_; intro e W9 hpost; obtain ⟨a9, n9, cp9, hcw, hbw, hres⟩ := HPW.out _ _ _ hpost; have he : e = .returned (.bool true) := hpost.1; have HCW := Lib.hid hcw; have HBW := Lib.hid hbw; have HRES := Lib.hid (hres u rfl); have r9 := hcw.cell; have f9 := hcw.free; have hcl := (hcw.set (.slice a9 n9 cp9)).cell; clear hpost hcw hbw hres; subst he)
     refine bodyPost_ret (v := .tuple #[.slice a9 n9 cp9, .bool true, .int .i64 0]) (by simp [results, Tryz.results8, go_sem, hcl]) rfl ?_
     rw [hb1, hb2]
     have hbr := HBR.out
     have hts : Turned (fun q => q = w.heap.size + 1) W9 (W9.setCell ⟨w.heap.size + 1, 0, none⟩ (.slice a9 n9 cp9)) := Turned.of_grown (grown_setCell W9 ⟨w.heap.size + 1, 0, none⟩ _) (fun q e => by simpa using e.symm)
     obtain ⟨vals, hv⟩ := HRES.out
     have hw10 : WayAt (fun q => q < B ∨ W8.heap.size ≤ q) W8.heap.size (W9.setCell ⟨w.heap.size + 1, 0, none⟩ (.slice a9 n9 cp9)) (.slice a9 n9 cp9) u := ⟨vals, hv.turned hts (fun q hq _ e => by rcases hq with hq | hq <;> omega) (fun q e e2 => by have := (hv.lt q e).1; omega)⟩
     exact ⟨.slice a9 n9 cp9, by rw [HEZ.out], hw10.isMat, HBW.out.setCell (p := ⟨w.heap.size + 1, 0, none⟩) (by show w.heap.size ≤ w.heap.size + 1; omega) _⟩
 ·have he1 : (ER != 0) = true := by simpa using he
  have r2 := HR2.out.cell
  have f2 := HR2.out.free
  have hbad : MB = false ∧ MR = [] := by
   have h := err_make (f := f) (a := zs) (by rw [HER.out]; exact he)
   rw [HMB.out, HMR.out] at h
   exact ⟨h.1, h.2.1⟩
  obtain ⟨hb1, hb2⟩ := hbad
  have HST := Lib.hid (HR2.out.set (.slice none 0 0)).cell
  go_wp2
  have hcl := HST.out
  refine bodyPost_ret (v := .tuple #[.slice none 0 0, .bool false, .int .i64 ER]) (by simp [results, Tryz.results8, go_sem, hcl]) rfl ?_
  rw [hb1, hb2]
  exact ⟨_, rfl, ⟨0, 0, 0, ⟨none, rfl, Nat.le_refl _, by omega, .inr rfl⟩, by simp, fun j hj => by simp at hj⟩, HW2.out.setCell (p := ⟨w.heap.size + 1, 0, none⟩) (by show w.heap.size ≤ w.heap.size + 1; omega) _⟩
end Go.Proofs.YteiaeaciaglmgaaGreat
namespace Go.Proofs.YteiaeaciaglmgaaGreat
open Go.RowKit
theorem right_map {f : Flow} {zs : List Int} {W : List (List Int)} (he : errX f zs = 0) (hl : W.length = f.lots.length) (hk : ∀ j, j < f.lots.length → (lotAt f.lots j).known = true → rowAt W j = (lotAt f.lots j).perm) :
  rightW f zs W = (decide (mapE (alongF f W) = 0) && sameB (mapR (alongF f W)) zs) := by
 obtain ⟨hc, _, _⟩ := errX_ok he
 have hlo := (checkE_ok hc).2.2.2.2
 unfold rightW
 rw [decide_eq_true he, Bool.true_and]
 by_cases hm : mapE (alongF f W) = 0
 ·have hca : checkE (alongF f W) = 0 := by
   unfold mapE at hm
   by_cases e : checkE (alongF f W) = 0
   ·exact e
   ·rw [if_pos e] at hm; exact absurd hm e
  have hla := (checkE_ok hca).2.2.2.2
  rw [along_len] at hla
  have hB : isB f W = true := by
   rw [isB_iff hlo]
   refine ⟨hl, fun j hj => ?_⟩
   have hp := (lotB_parts (lotsB_lot hla hj)).2.2.2.1 (along_known j hj)
   rw [along_at hj] at hp
   unfold permsOf
   cases hkn : (lotAt f.lots j).known with
   | true => rw [if_pos rfl, List.mem_singleton]; exact hk j hj hkn
   | false => rw [if_neg (by decide), mem_permsL]; exact hp
  rw [hB, decide_eq_true hm]
  unfold leadsB mapR
  rw [if_pos hm]
 ·have hB : isB f W = false := by
   cases e : isB f W with
   | false => rfl
   | true =>
    exfalso
    have hw := ((isB_iff hlo).1 e).2
    apply hm
    unfold mapE
    rw [if_neg (by rw [along_check hc hw]; simp), if_pos]
    exact known_knownB (fun j hj => along_known j (by rw [← along_len f W]; exact hj))
  rw [hB, decide_eq_false hm]
  rfl
theorem right_len {f : Flow} {zs : List Int} {W : List (List Int)} (hl : W.length ≠ f.lots.length) : rightW f zs W = false := by
 unfold rightW isB
 rw [decide_eq_false hl, Bool.false_and, Bool.false_and, Bool.and_false]
theorem right_err {f : Flow} {zs : List Int} {W : List (List Int)} (he : errX f zs ≠ 0) : rightW f zs W = false := by
 unfold rightW
 rw [decide_eq_false he, Bool.false_and]
theorem right_row {f : Flow} {zs : List Int} {W : List (List Int)} {k : Nat} (hc : checkE f = 0) (hk : k < f.lots.length) (hkn : (lotAt f.lots k).known = true) (h : sameB (lotAt f.lots k).perm (rowAt W k) = false) : rightW f zs W = false := by
 unfold rightW
 have hB : isB f W = false := by
  cases e : isB f W with
  | false => rfl
  | true =>
   exfalso
   have hw := ((isB_iff (checkE_ok hc).2.2.2.2).1 e).2 k hk
   unfold permsOf at hw
   rw [if_pos hkn, List.mem_singleton] at hw
   rw [hw] at h
   unfold sameB at h
   simp at h
 rw [hB, Bool.false_and, Bool.and_false]
set_option maxHeartbeats 8000000 in
set_option maxRecDepth 100000 in
/-- explain.Check -/
theorem echk_any (B : Nat) (w : World) (vs vl va vw : Value) (f : Flow) (zs : List Int) (W : List (List Int)) (hf : IsFlow B w vs vl f) (hz : IsInts B w va zs) (hw : IsMat B w vw W) (hB : B ≤ w.heap.size) :
  Calls Tryz.prog 11 #[.agg #[vs, vl], va, vw] w fun e w' => e = .returned (.tuple #[.bool (rightW f zs W), .int .i64 (errX f zs)]) ∧ Below w.heap.size w w' := by
 have HF := Lib.hid hf
 have HZ := Lib.hid hz
 obtain ⟨rfl, ⟨hs1, hs2⟩, hl⟩ := hf
 obtain ⟨b, off, cap, ⟨a, rfl, hcap, hmax, ha⟩, hlen, hc⟩ := hl
 obtain ⟨bw, ow, cw, ⟨aw, rfl, hcapw, hmaxw, haw⟩, hlenw, hcw⟩ := hw
 obtain ⟨az, cz, rfl⟩ := hz.form
 have HC := Lib.hid hc
 have HA := Lib.hid ha
 have HCW := Lib.hid hcw
 have HAW := Lib.hid haw
 obtain ⟨ER, hER⟩ : ∃ x, errX f zs = x := ⟨_, rfl⟩
 have HER := Lib.hid hER
 obtain ⟨RB, hRB⟩ : ∃ x, rightW f zs W = x := ⟨_, rfl⟩
 have HRB := Lib.hid hRB
 rw [hER, hRB]
 clear hc ha hcw haw hz hER hRB
 go_enter Tryz.func11, Tryz.ntmps11
 go_upto_region 1 with fail
 refine wp_name (fun W1 hW1 => ?_)
 have HX1 : Hid (Box W1 w.heap.size #[.int .i64 f.senders, .slice a f.lots.length cap]) := Lib.hid (by rw [hW1]; exact Box.new w #[.int .i64 f.senders, .slice a f.lots.length cap] 24)
 have HW1 : Hid (Below w.heap.size w W1) := Lib.hid (by rw [hW1]; exact box_below' w _)
 clear hW1
 have x1 := HX1.out.2
 have HCH := Lib.hid (echeck_any B W1 _ _ _ f zs (HF.out.below HW1.out hB) (HZ.out.below HW1.out hB) (Nat.le_trans hB HW1.out.size))
 rw [HER.out] at HCH
 go_wp2_with fail
 refine HCH.out.mono ?_
 rintro e W2 ⟨rfl, hb2⟩
 have HX2 := Lib.hid (HX1.out.ext hb2)
 have HW2 : Hid (Below w.heap.size w W2) := Lib.hid (HW1.out.trans (hb2.mono HW1.out.size))
 have x2 := HX2.out.2
 clear x1 hb2
 by_cases he : ER = 0
 ·have he1 : (ER != 0) = false := by simpa using he
  have hck0 : errX f zs = 0 := by rw [HER.out]; exact he
  have HE0 := Lib.hid he
  obtain ⟨hck, _, _⟩ := errX_ok hck0
  have HCK := Lib.hid hck0
  have HCC := Lib.hid hck
  have hl2 := (checkE_ok hck).2.2.1
  clear he hck0 hck
  by_cases hlw : W.length = f.lots.length
  ·have hd : ((W.length : Int) != (f.lots.length : Int)) = false := by simp [hlw]
   have hd2 : (W.length != f.lots.length) = false := by simp [hlw]
   have HLW := Lib.hid hlw
   clear hlw
   go_upto_region 7 with fail
   refine wp_name (fun W3 hW3 => ?_)
   have HB3 : Hid (Below W2.heap.size W2 W3) := Lib.hid (by rw [hW3]; exact box_below' W2 _)
   have HC3 : Hid (CellsN W3 W2.heap.size #[.int .i64 f.senders, .slice none 0 0]) := Lib.hid (by rw [hW3]; exact CellsN.new W2 _ _)
   have HX3 := Lib.hid (HX2.out.ext HB3.out)
   have HW3 : Hid (Below w.heap.size w W3) := Lib.hid (HW2.out.trans (HB3.out.mono HW2.out.size))
   have HZ2 := Lib.hid HX2.out.1
   obtain ⟨c2, hc2⟩ : ∃ x, W2.heap.size = x := ⟨_, rfl⟩
   rw [hc2] at HC3 HZ2 ⊢
   have x3 := HX3.out.2
   have n0 : w.heap.size ≠ c2 := by have := HZ2.out; omega
   clear hW3 hc2 HB3 x2
   go_wp2_with fail
   clear x3
   go_loopw [31] (fun i' wr => ∃ k v, k ≤ f.lots.length ∧ i' = .int .i64 (k : Nat) ∧ OwnLots w.heap.size wr v (alongL f W k) ∧ v.ownBlock ≠ some c2 ∧ v.ownBlock ≠ some w.heap.size ∧ Box wr w.heap.size #[.int .i64 f.senders, .slice a f.lots.length cap] ∧ CellsN wr c2 #[.int .i64 f.senders, v] ∧ Below w.heap.size w wr ∧ ∀ j, j < k → (lotAt f.lots j).known = true → rowAt W j = (lotAt f.lots j).perm) (fun i' _ => f.lots.length - (intOf i').toNat)
   case atStart => exact ⟨0, .slice none 0 0, by omega, rfl, OwnLots.nil _ _, by simp [Value.ownBlock], by simp [Value.ownBlock], HX3.out, HC3.out, HW3.out, fun j hj => by omega⟩
   case round =>
    obtain ⟨k, v, hk, rfl, hv, n2, n3, x0, y2, hbr, hkr⟩ := hrel
    have HV := Lib.hid hv
    have HY0 := Lib.hid x0
    have HY2 := Lib.hid y2
    have HBR := Lib.hid hbr
    have HKR := Lib.hid hkr
    clear hbr hkr y2
    by_cases hlt : k < f.lots.length
    ·obtain rfl : a = some ⟨b, off, none⟩ := by rcases HA.out with h | h; exact h; omega
     have hkw : k < W.length := by rw [HLW.out]; exact hlt
     obtain rfl : aw = some ⟨bw, ow, none⟩ := by rcases HAW.out with h | h; exact h; omega
     obtain ⟨vi, vk, vp, q1, q2, q3, hli, rfl, hlp⟩ := HC.out k hlt
     obtain ⟨ai, ci, rfl⟩ := hli.form
     obtain ⟨ap, cp, rfl⟩ := hlp.form
     obtain ⟨vr, hr1, hr2⟩ := HCW.out k hkw
     obtain ⟨ar, cr, rfl⟩ := hr2.form
     obtain ⟨av, nv, cv, rfl⟩ : ∃ a n c, v = .slice a n c := by obtain ⟨a, c, e⟩ := hv.form; exact ⟨_, _, _, e⟩
     have HWC : Hid (∀ W', Below w.heap.size w W' → W'.cell? ⟨bw, ow + k, none⟩ = some (.slice ar (rowAt W k).length cr)) := Lib.hid (fun W' hW => (hr1.below hW hB).2)
     have HLX : Hid (∀ W', Below w.heap.size w W' → IsLot w.heap.size W' (.slice ai (lotAt f.lots k).ins.length ci) (.bool true) (.slice ar (rowAt W k).length cr) ⟨(lotAt f.lots k).ins, true, rowAt W k⟩) := Lib.hid fun W' hW => ⟨(hli.below hW hB).mono hB, rfl, (hr2.below hW hB).mono hB⟩
     have HEQ := Lib.hid (fun (W' : World) (hW : Below w.heap.size w W') => equal_any B B W' _ _ _ _ (hlp.below hW hB) (hr2.below hW hB))
     have HLL : Hid ((alongL f W k).length = k) := Lib.hid (alongL_len f W k)
     have HLS : Hid (alongL f W (k + 1) = alongL f W k ++ [⟨(lotAt f.lots k).ins, true, rowAt W k⟩]) := Lib.hid rfl
     have HBAD := Lib.hid (fun hkn h => right_row (zs := zs) (W := W) HCC.out hlt hkn h)
     have c1 := (q1.below HBR.out hB).2
     have c2' := (q2.below HBR.out hB).2
     have c3 := (q3.below HBR.out hB).2
     clear q1 q2 q3 hli hlp hr1 hr2 hv x0
     go_upto_region 10 with fail
     refine wp_name (fun WA hWA => ?_)
     have HBA : Hid (Below wr.heap.size wr WA) := Lib.hid (by rw [hWA]; exact box_below' wr _)
     have HLA : Hid (Box WA wr.heap.size #[.slice ai (lotAt f.lots k).ins.length ci, .bool (lotAt f.lots k).known, .slice ap (lotAt f.lots k).perm.length cp]) := Lib.hid (by rw [hWA]; exact Box.new wr _ _)
     have HBW : Hid (Below w.heap.size w WA) := Lib.hid (HBR.out.trans (HBA.out.mono HBR.out.size))
     have HSZ := Lib.hid HBR.out.size
     have HZY := Lib.hid HY2.out.lt
     obtain ⟨zL, hzL⟩ : ∃ x, wr.heap.size = x := ⟨_, rfl⟩
     rw [hzL] at HLA HSZ HZY ⊢
     have HOA : Hid (∀ q, (Value.slice av nv cv).ownBlock = some q → q < zL) := Lib.hid (fun q e => by rw [← hzL]; exact (HV.out.ltX q e).2)
     have n4 : zL ≠ c2 := by have := HZY.out; omega
     have n5 : (Value.slice av nv cv).ownBlock ≠ some zL := fun e => by have := HOA.out _ e; omega
     have HVA : Hid (OwnLots w.heap.size WA (.slice av nv cv) (alongL f W k)) := Lib.hid (HV.out.below HBA.out HBR.out.size)
     have HYA := Lib.hid (HY2.out.ext HBA.out)
     have HX0A := Lib.hid (HY0.out.ext HBA.out)
     clear hWA hzL HV HY2 HY0 HBA HBR c1 c2' c3
     have l1 := HLA.out.2
     have w1 := HWC.out _ HBW.out
     cases hkn : (lotAt f.lots k).known
     ·rw [hkn] at l1
      have HKS : Hid (∀ j, j < k + 1 → (lotAt f.lots j).known = true → rowAt W j = (lotAt f.lots j).perm) := Lib.hid (fun j hj h => by
       by_cases e : j = k
       ·subst e; rw [hkn] at h; cases h
       ·exact HKR.out j (by omega) h)
      go_wp2
      go_quiet (fail)
      clear l1 w1
      go_upto_region 12 with fail
      refine wp_name (fun WB hWB => ?_)
      have HBWB : Hid (Below WA.heap.size WA WB) := Lib.hid (by rw [hWB]; exact below_drewN (Below.refl _ _) _)
      have HBB : Hid (Below w.heap.size w WB) := Lib.hid (HBW.out.trans (HBWB.out.mono HBW.out.size))
      have HVB : Hid (OwnLots w.heap.size WB (.slice av nv cv) (alongL f W k)) := Lib.hid (HVA.out.below HBWB.out HBW.out.size)
      have HYB := Lib.hid (HYA.out.ext HBWB.out)
      have HX0B := Lib.hid (HX0A.out.ext HBWB.out)
      have HLBB := Lib.hid (HLA.out.ext HBWB.out)
      have n6 : w.heap.size < WB.heap.size := HX0B.out.1
      clear hWB HBWB
      obtain ⟨V, hV⟩ : ∃ V : List (Option Value), V = [some (.pointer (some ⟨c2, 1, none⟩)), some (.slice av nv cv), some (.pointer (some ⟨zL, 0, none⟩)), some (.slice ai (lotAt f.lots k).ins.length ci), some (.slice (some ⟨bw, ow, none⟩) W.length cw), some (.int .i64 (k : Nat)), some (.pointer (some ⟨bw, ow + k, none⟩)), some (.slice ar (rowAt W k).length cr), some (.agg #[.slice ai (lotAt f.lots k).ins.length ci, .bool true, .slice ar (rowAt W k).length cr]), none, none, some (.pointer (some ⟨c2, 1, none⟩)), none] := ⟨_, rfl⟩
      have HVV := Lib.hid hV
      clear hV
      refine wp_region_V [some 48, some 49, some 50, some 51, some 52, some 53, some 54, some 55, some 56, some 57, some 58, some 59, none] (fun L w' xs => ValsAt V L xs ∧ (ApL w.heap.size c2 w WB (.int .i64 f.senders) (.slice av nv cv) (alongL f W k) ⟨(lotAt f.lots k).ins, true, rowAt W k⟩ #[.slice ai (lotAt f.lots k).ins.length ci, .bool true, .slice ar (rowAt W k).length cr] (L 9) (L 10) (L 12) (xs 9) (xs 10) w' ∧ (L 12 = true → L 1 = true ∧ L 10 = true))) (by kernel_rfl) (by kernel_rfl) (by rfl) (by rfl) (by rfl) ?_ ?_ ?_
      focus
       exact fun xs => ⟨ValsAt.none _ _, (by exact ApL.start HBB.out (by have := HZ2.out; omega) HBB.out.size HVB.out n2 HYB.out 1), (fun e => by cases e)⟩
      focus
       refine ⟨?_, ?_, ?_, ?_, ?_, ?_, ?_, ?_, ?_, ?_, ?_, ?_, ?_, trivial⟩
       all_goals
        intro L a' w' xs hi hd hf hJ K hK
        obtain ⟨hv, hA, h16⟩ := hJ
        have HF := Lib.hid hf
        have HVA := Lib.hid hv
        have HLI := Lib.hid hi
        clear hf hv hi
       focus
        clear hd
        obtain ⟨ρ, hρ⟩ : ∃ ρ, a'.eval = ρ := ⟨_, rfl⟩
        have hcst := cstE hρ
        have l9 : ρ (.tmp 9) = .pointer (some ⟨c2, 0, none⟩) := (congrFun hρ (.tmp 9)).symm.trans (HF.out.lo 9 rfl)
        rw [if_pos (by simp [Region.wanted])]
        unfold Oper.wp
        rw [hρ]
        clear hρ
        go_simp
        exact hK.out _ _ ⟨HVA.out.set (i := 0) (by rw [HVV.out]; rfl), (by simp only [une xs 9 0 rfl, une xs 10 0 rfl]; exact hA), h16⟩
       focus
        obtain ⟨d0, _⟩ := hd
        obtain ⟨ρ, hρ⟩ : ∃ ρ, a'.eval = ρ := ⟨_, rfl⟩
        have hcst := cstE hρ
        have v0 : ρ (.tmp 48) = .pointer (some ⟨c2, 1, none⟩) := (congrFun hρ (.tmp 48)).symm.trans ((HF.out.ev 0 rfl d0).trans (HVA.out 0 _ (by rw [HVV.out]; rfl) d0))
        have hN : L 12 = false := by
         cases e : L 12 with
         | false => rfl
         | true => have := (h16 e).1; rw [HLI.out] at this; cases this
        have m1 := (hA.hc hN).cell 1
        simp at m1
        rw [if_pos (by simp [Region.wanted])]
        unfold Oper.wp
        rw [hρ]
        clear hρ
        go_simp
        exact hK.out _ _ ⟨HVA.out.set (i := 1) (by rw [HVV.out]; rfl), (by simp only [une xs 9 1 rfl, une xs 10 1 rfl]; exact hA), (fun e => ⟨rfl, (h16 e).2⟩)⟩
       focus
        clear hd
        obtain ⟨ρ, hρ⟩ : ∃ ρ, a'.eval = ρ := ⟨_, rfl⟩
        have hcst := cstE hρ
        have l11 : ρ (.tmp 11) = .pointer (some ⟨zL, 0, none⟩) := (congrFun hρ (.tmp 11)).symm.trans (HF.out.lo 11 rfl)
        rw [if_pos (by simp [Region.wanted])]
        unfold Oper.wp
        rw [hρ]
        clear hρ
        go_simp
        exact hK.out _ _ ⟨HVA.out.set (i := 2) (by rw [HVV.out]; rfl), (by simp only [une xs 9 2 rfl, une xs 10 2 rfl]; exact hA), h16⟩
       focus
        obtain ⟨d2, _⟩ := hd
        obtain ⟨ρ, hρ⟩ : ∃ ρ, a'.eval = ρ := ⟨_, rfl⟩
        have hcst := cstE hρ
        have v2 : ρ (.tmp 50) = .pointer (some ⟨zL, 0, none⟩) := (congrFun hρ (.tmp 50)).symm.trans ((HF.out.ev 2 rfl d2).trans (HVA.out 2 _ (by rw [HVV.out]; rfl) d2))
        have m1 := (hA.cell (k := zL) (i := 0) HLBB.out.1 n4 n5).trans (HLBB.out.2 0)
        simp at m1
        rw [if_pos (by simp [Region.wanted])]
        unfold Oper.wp
        rw [hρ]
        clear hρ
        go_simp
        exact hK.out _ _ ⟨HVA.out.set (i := 3) (by rw [HVV.out]; rfl), (by simp only [une xs 9 3 rfl, une xs 10 3 rfl]; exact hA), h16⟩
       focus
        clear hd
        obtain ⟨ρ, hρ⟩ : ∃ ρ, a'.eval = ρ := ⟨_, rfl⟩
        have hcst := cstE hρ
        have l2 : ρ (.tmp 2) = .slice (some ⟨bw, ow, none⟩) W.length cw := (congrFun hρ (.tmp 2)).symm.trans (HF.out.lo 2 rfl)
        rw [if_pos (by simp [Region.wanted])]
        unfold Oper.wp
        rw [hρ]
        clear hρ
        go_simp
        exact hK.out _ _ ⟨HVA.out.set (i := 4) (by rw [HVV.out]; rfl), (by simp only [une xs 9 4 rfl, une xs 10 4 rfl]; exact hA), h16⟩
       focus
        clear hd
        obtain ⟨ρ, hρ⟩ : ∃ ρ, a'.eval = ρ := ⟨_, rfl⟩
        have hcst := cstE hρ
        have l10 : ρ (.tmp 10) = .int .i64 (k : Nat) := (congrFun hρ (.tmp 10)).symm.trans (HF.out.lo 10 rfl)
        rw [if_pos (by simp [Region.wanted])]
        unfold Oper.wp
        rw [hρ]
        clear hρ
        go_simp
        exact hK.out _ _ ⟨HVA.out.set (i := 5) (by rw [HVV.out]; rfl), (by simp only [une xs 9 5 rfl, une xs 10 5 rfl]; exact hA), h16⟩
       focus
        obtain ⟨d4, d5, _⟩ := hd
        obtain ⟨ρ, hρ⟩ : ∃ ρ, a'.eval = ρ := ⟨_, rfl⟩
        have hcst := cstE hρ
        have v4 : ρ (.tmp 52) = .slice (some ⟨bw, ow, none⟩) W.length cw := (congrFun hρ (.tmp 52)).symm.trans ((HF.out.ev 4 rfl d4).trans (HVA.out 4 _ (by rw [HVV.out]; rfl) d4))
        have v5 : ρ (.tmp 53) = .int .i64 (k : Nat) := (congrFun hρ (.tmp 53)).symm.trans ((HF.out.ev 5 rfl d5).trans (HVA.out 5 _ (by rw [HVV.out]; rfl) d5))
        rw [if_pos (by simp [Region.wanted])]
        unfold Oper.wp
        rw [hρ]
        clear hρ
        go_simp
        exact hK.out _ _ ⟨HVA.out.set (i := 6) (by rw [HVV.out]; rfl), (by simp only [une xs 9 6 rfl, une xs 10 6 rfl]; exact hA), h16⟩
       focus
        obtain ⟨d6, _⟩ := hd
        obtain ⟨ρ, hρ⟩ : ∃ ρ, a'.eval = ρ := ⟨_, rfl⟩
        have hcst := cstE hρ
        have v6 : ρ (.tmp 54) = .pointer (some ⟨bw, ow + k, none⟩) := (congrFun hρ (.tmp 54)).symm.trans ((HF.out.ev 6 rfl d6).trans (HVA.out 6 _ (by rw [HVV.out]; rfl) d6))
        have m1 := HWC.out _ hA.hb
        rw [if_pos (by simp [Region.wanted])]
        unfold Oper.wp
        rw [hρ]
        clear hρ
        go_simp
        exact hK.out _ _ ⟨HVA.out.set (i := 7) (by rw [HVV.out]; rfl), (by simp only [une xs 9 7 rfl, une xs 10 7 rfl]; exact hA), h16⟩
       focus
        obtain ⟨d3, d7, _⟩ := hd
        obtain ⟨ρ, hρ⟩ : ∃ ρ, a'.eval = ρ := ⟨_, rfl⟩
        have hcst := cstE hρ
        have v3 : ρ (.tmp 51) = .slice ai (lotAt f.lots k).ins.length ci := (congrFun hρ (.tmp 51)).symm.trans ((HF.out.ev 3 rfl d3).trans (HVA.out 3 _ (by rw [HVV.out]; rfl) d3))
        have v7 : ρ (.tmp 55) = .slice ar (rowAt W k).length cr := (congrFun hρ (.tmp 55)).symm.trans ((HF.out.ev 7 rfl d7).trans (HVA.out 7 _ (by rw [HVV.out]; rfl) d7))
        rw [if_pos (by simp [Region.wanted])]
        unfold Oper.wp
        rw [hρ]
        clear hρ
        go_simp
        exact hK.out _ _ ⟨HVA.out.set (i := 8) (by rw [HVV.out]; rfl), (by simp only [une xs 9 8 rfl, une xs 10 8 rfl]; exact hA), h16⟩
       focus
        obtain ⟨d8, _⟩ := hd
        obtain ⟨ρ, hρ⟩ : ∃ ρ, a'.eval = ρ := ⟨_, rfl⟩
        have hcst := cstE hρ
        have v8 : ρ (.tmp 56) = .agg #[.slice ai (lotAt f.lots k).ins.length ci, .bool true, .slice ar (rowAt W k).length cr] := (congrFun hρ (.tmp 56)).symm.trans ((HF.out.ev 8 rfl d8).trans (HVA.out 8 _ (by rw [HVV.out]; rfl) d8))
        rw [if_pos (by simp [Region.wanted])]
        unfold Oper.wp
        rw [hρ]
        clear hρ
        go_simp
        exact hK.out _ _ ⟨HVA.out.free (i := 9) (by rw [HVV.out]; rfl) _, (by simp only [une xs 10 9 rfl, updV_self]; exact hA.sb HLI.out _ rfl), h16⟩
       focus
        obtain ⟨d1, d9, _⟩ := hd
        have v1 : a'.eval (.tmp 49) = .slice av nv cv := (HF.out.ev 1 rfl d1).trans (HVA.out 1 _ (by rw [HVV.out]; rfl) d1)
        have v9 : a'.eval (.tmp 57) = xs 9 := HF.out.ev 9 rfl d9
        rw [if_pos (by simp [Region.wanted])]
        obtain ⟨q, e13, q1, q2⟩ := hA.hq d9 HLI.out
        rw [e13] at v9
        have hsrc : SrcLots w.heap.size w' (.slice (some ⟨q, 0, none⟩) 1 1) [⟨(lotAt f.lots k).ins, true, rowAt W k⟩] := srcLots_one (q2.cell 0) (q2.cell 1) (q2.cell 2) (HLX.out _ hA.hb)
        obtain ⟨v5, w5, y1, y2, y3, y4⟩ := run_append_lots (ty := 22) (hA.hv HLI.out) hsrc (by have := HLL.out; simp; omega) (Nat.le_trans hA.hC.2.2 hA.sz)
        refine wp_of_append w' rfl v1 v9 y1 ?_
        exact hK.out _ _ ⟨HVA.out.free (i := 10) (by rw [HVV.out]; rfl) _, (by simp only [une xs 9 10 rfl, updV_self]; exact hA.sa HLI.out d9 y2 y3 y4), (fun e => by have := (h16 e).2; rw [HLI.out] at this; cases this)⟩
       focus
        obtain ⟨d0, d1, d2, d3, d4, d5, d6, d7, d8, d9, d10, _⟩ := hd
        obtain ⟨ρ, hρ⟩ : ∃ ρ, a'.eval = ρ := ⟨_, rfl⟩
        have hcst := cstE hρ
        have l9 : ρ (.tmp 9) = .pointer (some ⟨c2, 0, none⟩) := (congrFun hρ (.tmp 9)).symm.trans (HF.out.lo 9 rfl)
        rw [if_pos (by simp [Region.wanted])]
        unfold Oper.wp
        rw [hρ]
        clear hρ
        go_simp
        exact hK.out _ _ ⟨HVA.out.set (i := 11) (by rw [HVV.out]; rfl), (by simp only [une xs 9 11 rfl, une xs 10 11 rfl]; exact hA), h16⟩
       focus
        obtain ⟨d11, d10, _, d0, d1, d2, d3, d4, d5, d6, d7, d8, d9, _, _⟩ := hd
        obtain ⟨ρ, hρ⟩ : ∃ ρ, a'.eval = ρ := ⟨_, rfl⟩
        have hcst := cstE hρ
        have v11 : ρ (.tmp 59) = .pointer (some ⟨c2, 1, none⟩) := (congrFun hρ (.tmp 59)).symm.trans ((HF.out.ev 11 rfl d11).trans (HVA.out 11 _ (by rw [HVV.out]; rfl) d11))
        have v10 : ρ (.tmp 58) = xs 10 := (congrFun hρ (.tmp 58)).symm.trans (HF.out.ev 10 rfl d10)
        rw [if_pos (by simp [Region.wanted])]
        unfold Oper.wp
        rw [hρ]
        clear hρ
        obtain ⟨o1, o2, _⟩ := hA.ha d10
        obtain ⟨a8, n8, c8, e8⟩ : ∃ a n c, xs 10 = .slice a n c := by obtain ⟨a, c, e⟩ := o1.form; exact ⟨_, _, _, e⟩
        have HE8 := Lib.hid e8
        rw [e8] at v10
        have hSS := Lib.hid (hA.ss HLI.out d10)
        rw [e8] at hSS
        have fz := (hA.hc HLI.out).free 1
        have m1 := (hA.hc HLI.out).cell 1
        simp at m1
        clear o1 o2 e8
        go_simp
        exact hK.out undef _ ⟨HVA.out.free (i := 12) (by rw [HVV.out]; rfl) _, (by simp only [une xs 9 12 rfl, une xs 10 12 rfl]; rw [HE8.out]; exact hSS.out), (fun _ => ⟨d1, d10⟩)⟩
      focus
       intro L w' xs hL hJ
       obtain ⟨hv, hA, h16⟩ := hJ
       have e0 : xs 0 = .pointer (some ⟨c2, 1, none⟩) := hv 0 _ (by rw [HVV.out]; rfl) (hL 0 (by decide))
       have e1 : xs 1 = .slice av nv cv := hv 1 _ (by rw [HVV.out]; rfl) (hL 1 (by decide))
       have e2 : xs 2 = .pointer (some ⟨zL, 0, none⟩) := hv 2 _ (by rw [HVV.out]; rfl) (hL 2 (by decide))
       have e3 : xs 3 = .slice ai (lotAt f.lots k).ins.length ci := hv 3 _ (by rw [HVV.out]; rfl) (hL 3 (by decide))
       have e4 : xs 4 = .slice (some ⟨bw, ow, none⟩) W.length cw := hv 4 _ (by rw [HVV.out]; rfl) (hL 4 (by decide))
       have e5 : xs 5 = .int .i64 (k : Nat) := hv 5 _ (by rw [HVV.out]; rfl) (hL 5 (by decide))
       have e6 : xs 6 = .pointer (some ⟨bw, ow + k, none⟩) := hv 6 _ (by rw [HVV.out]; rfl) (hL 6 (by decide))
       have e7 : xs 7 = .slice ar (rowAt W k).length cr := hv 7 _ (by rw [HVV.out]; rfl) (hL 7 (by decide))
       have e8 : xs 8 = .agg #[.slice ai (lotAt f.lots k).ins.length ci, .bool true, .slice ar (rowAt W k).length cr] := hv 8 _ (by rw [HVV.out]; rfl) (hL 8 (by decide))
       have e11 : xs 11 = .pointer (some ⟨c2, 1, none⟩) := hv 11 _ (by rw [HVV.out]; rfl) (hL 11 (by decide))
       simp only [putGo, Act.put, List.setIfInBounds_toArray, List.set_cons_zero, List.set_cons_succ, e0, e1, e2, e3, e4, e5, e6, e7, e8, e11]
       clear hv e0 e1 e2 e3 e4 e5 e6 e7 e8 e11
      have hX := (h16 (hL 12 (by decide))).2
      have hX12 := hL 12 (by decide)
      have HAP := Lib.hid hA
      clear h16 hA hL
      go_wp2
      go_roundw
      case rel =>
       obtain ⟨o1, o2, o3⟩ := HAP.out.ha hX
       refine ⟨k + 1, xs 10, by omega, by go_num, by rw [HLS.out]; exact o1, o2, fun e => ?_, ⟨Nat.lt_of_lt_of_le n6 HAP.out.sz, fun i => (HAP.out.cell n6 n0 n3).trans (HX0B.out.2 i)⟩, HAP.out.he hX12, HAP.out.hb, HKS.out⟩
       rcases o3 with o3 | ⟨q, o3, hq⟩
       ·rw [o3] at e; exact n3 e
       ·rw [o3] at e; simp at e; omega
      case measure => simp [intOf]; omega
     ·rw [hkn] at l1
      have HBD := Lib.hid (HBAD.out hkn)
      obtain ⟨SB, hSB⟩ : ∃ x, sameB (lotAt f.lots k).perm (rowAt W k) = x := ⟨_, rfl⟩
      have HSB := Lib.hid hSB
      have HEQ2 := Lib.hid (HEQ.out WA.drew ⟨HBW.out.os, HBW.out.tape, HBW.out.output, HBW.out.size, HBW.out.block⟩)
      rw [hSB] at HEQ2
      rw [hSB] at HBD
      clear hSB
      go_wp2
      go_still_tail 9, (by kernel_rfl)
      change wpList _ _ _ _ _ WA.drew
      cases SB
      ·have hrb : RB = false := by rw [← HRB.out]; exact HBD.out rfl
       go_wp2_with (go_at_call 22; refine HEQ2.out.mono ?_; rintro e w5 ⟨rfl, hd5⟩; have HD5 := Lib.hid hd5; clear hd5)
       go_ret2
       have hb5 := HD5.out.below w.heap.size
       exact ⟨by rw [hrb, HE0.out]; rfl, HBW.out.trans ⟨hb5.os, hb5.tape, hb5.output, hb5.size, hb5.block⟩⟩
      ·have HKS : Hid (∀ j, j < k + 1 → (lotAt f.lots j).known = true → rowAt W j = (lotAt f.lots j).perm) := Lib.hid (fun j hj h => by
        by_cases e : j = k
        ·subst e
         have h2 := HSB.out
         unfold sameB at h2
         exact (of_decide_eq_true h2).symm
        ·exact HKR.out j (by omega) h)
       clear l1 w1
       go_upto_region 12 with (go_at_call 22; refine HEQ2.out.mono ?_; rintro e w5 ⟨rfl, hd5⟩; have HD5 := Lib.hid hd5; clear hd5)
       refine wp_name (fun WB hWB => ?_)
       have HBWB : Hid (Below WA.heap.size WA WB) := Lib.hid (by
        rw [hWB]
        have hb5 := HD5.out.below WA.heap.size
        exact ⟨hb5.os, hb5.tape, hb5.output, hb5.size, hb5.block⟩)
       have HBB : Hid (Below w.heap.size w WB) := Lib.hid (HBW.out.trans (HBWB.out.mono HBW.out.size))
       have HVB : Hid (OwnLots w.heap.size WB (.slice av nv cv) (alongL f W k)) := Lib.hid (HVA.out.below HBWB.out HBW.out.size)
       have HYB := Lib.hid (HYA.out.ext HBWB.out)
       have HX0B := Lib.hid (HX0A.out.ext HBWB.out)
       have HLBB := Lib.hid (HLA.out.ext HBWB.out)
       have n6 : w.heap.size < WB.heap.size := HX0B.out.1
       clear hWB HBWB
       obtain ⟨V, hV⟩ : ∃ V : List (Option Value), V = [some (.pointer (some ⟨c2, 1, none⟩)), some (.slice av nv cv), some (.pointer (some ⟨zL, 0, none⟩)), some (.slice ai (lotAt f.lots k).ins.length ci), some (.slice (some ⟨bw, ow, none⟩) W.length cw), some (.int .i64 (k : Nat)), some (.pointer (some ⟨bw, ow + k, none⟩)), some (.slice ar (rowAt W k).length cr), some (.agg #[.slice ai (lotAt f.lots k).ins.length ci, .bool true, .slice ar (rowAt W k).length cr]), none, none, some (.pointer (some ⟨c2, 1, none⟩)), none] := ⟨_, rfl⟩
       have HVV := Lib.hid hV
       clear hV
       refine wp_region_V [some 48, some 49, some 50, some 51, some 52, some 53, some 54, some 55, some 56, some 57, some 58, some 59, none] (fun L w' xs => ValsAt V L xs ∧ (ApL w.heap.size c2 w WB (.int .i64 f.senders) (.slice av nv cv) (alongL f W k) ⟨(lotAt f.lots k).ins, true, rowAt W k⟩ #[.slice ai (lotAt f.lots k).ins.length ci, .bool true, .slice ar (rowAt W k).length cr] (L 9) (L 10) (L 12) (xs 9) (xs 10) w' ∧ (L 12 = true → L 1 = true ∧ L 10 = true))) (by kernel_rfl) (by kernel_rfl) (by rfl) (by rfl) (by rfl) ?_ ?_ ?_
       focus
        exact fun xs => ⟨ValsAt.none _ _, (by exact ApL.start HBB.out (by have := HZ2.out; omega) HBB.out.size HVB.out n2 HYB.out 1), (fun e => by cases e)⟩
       focus
        refine ⟨?_, ?_, ?_, ?_, ?_, ?_, ?_, ?_, ?_, ?_, ?_, ?_, ?_, trivial⟩
        all_goals
         intro L a' w' xs hi hd hf hJ K hK
         obtain ⟨hv, hA, h16⟩ := hJ
         have HF := Lib.hid hf
         have HVA := Lib.hid hv
         have HLI := Lib.hid hi
         clear hf hv hi
        focus
         clear hd
         obtain ⟨ρ, hρ⟩ : ∃ ρ, a'.eval = ρ := ⟨_, rfl⟩
         have hcst := cstE hρ
         have l9 : ρ (.tmp 9) = .pointer (some ⟨c2, 0, none⟩) := (congrFun hρ (.tmp 9)).symm.trans (HF.out.lo 9 rfl)
         rw [if_pos (by simp [Region.wanted])]
         unfold Oper.wp
         rw [hρ]
         clear hρ
         go_simp
         exact hK.out _ _ ⟨HVA.out.set (i := 0) (by rw [HVV.out]; rfl), (by simp only [une xs 9 0 rfl, une xs 10 0 rfl]; exact hA), h16⟩
        focus
         obtain ⟨d0, _⟩ := hd
         obtain ⟨ρ, hρ⟩ : ∃ ρ, a'.eval = ρ := ⟨_, rfl⟩
         have hcst := cstE hρ
         have v0 : ρ (.tmp 48) = .pointer (some ⟨c2, 1, none⟩) := (congrFun hρ (.tmp 48)).symm.trans ((HF.out.ev 0 rfl d0).trans (HVA.out 0 _ (by rw [HVV.out]; rfl) d0))
         have hN : L 12 = false := by
          cases e : L 12 with
          | false => rfl
          | true => have := (h16 e).1; rw [HLI.out] at this; cases this
         have m1 := (hA.hc hN).cell 1
         simp at m1
         rw [if_pos (by simp [Region.wanted])]
         unfold Oper.wp
         rw [hρ]
         clear hρ
         go_simp
         exact hK.out _ _ ⟨HVA.out.set (i := 1) (by rw [HVV.out]; rfl), (by simp only [une xs 9 1 rfl, une xs 10 1 rfl]; exact hA), (fun e => ⟨rfl, (h16 e).2⟩)⟩
        focus
         clear hd
         obtain ⟨ρ, hρ⟩ : ∃ ρ, a'.eval = ρ := ⟨_, rfl⟩
         have hcst := cstE hρ
         have l11 : ρ (.tmp 11) = .pointer (some ⟨zL, 0, none⟩) := (congrFun hρ (.tmp 11)).symm.trans (HF.out.lo 11 rfl)
         rw [if_pos (by simp [Region.wanted])]
         unfold Oper.wp
         rw [hρ]
         clear hρ
         go_simp
         exact hK.out _ _ ⟨HVA.out.set (i := 2) (by rw [HVV.out]; rfl), (by simp only [une xs 9 2 rfl, une xs 10 2 rfl]; exact hA), h16⟩
        focus
         obtain ⟨d2, _⟩ := hd
         obtain ⟨ρ, hρ⟩ : ∃ ρ, a'.eval = ρ := ⟨_, rfl⟩
         have hcst := cstE hρ
         have v2 : ρ (.tmp 50) = .pointer (some ⟨zL, 0, none⟩) := (congrFun hρ (.tmp 50)).symm.trans ((HF.out.ev 2 rfl d2).trans (HVA.out 2 _ (by rw [HVV.out]; rfl) d2))
         have m1 := (hA.cell (k := zL) (i := 0) HLBB.out.1 n4 n5).trans (HLBB.out.2 0)
         simp at m1
         rw [if_pos (by simp [Region.wanted])]
         unfold Oper.wp
         rw [hρ]
         clear hρ
         go_simp
         exact hK.out _ _ ⟨HVA.out.set (i := 3) (by rw [HVV.out]; rfl), (by simp only [une xs 9 3 rfl, une xs 10 3 rfl]; exact hA), h16⟩
        focus
         clear hd
         obtain ⟨ρ, hρ⟩ : ∃ ρ, a'.eval = ρ := ⟨_, rfl⟩
         have hcst := cstE hρ
         have l2 : ρ (.tmp 2) = .slice (some ⟨bw, ow, none⟩) W.length cw := (congrFun hρ (.tmp 2)).symm.trans (HF.out.lo 2 rfl)
         rw [if_pos (by simp [Region.wanted])]
         unfold Oper.wp
         rw [hρ]
         clear hρ
         go_simp
         exact hK.out _ _ ⟨HVA.out.set (i := 4) (by rw [HVV.out]; rfl), (by simp only [une xs 9 4 rfl, une xs 10 4 rfl]; exact hA), h16⟩
        focus
         clear hd
         obtain ⟨ρ, hρ⟩ : ∃ ρ, a'.eval = ρ := ⟨_, rfl⟩
         have hcst := cstE hρ
         have l10 : ρ (.tmp 10) = .int .i64 (k : Nat) := (congrFun hρ (.tmp 10)).symm.trans (HF.out.lo 10 rfl)
         rw [if_pos (by simp [Region.wanted])]
         unfold Oper.wp
         rw [hρ]
         clear hρ
         go_simp
         exact hK.out _ _ ⟨HVA.out.set (i := 5) (by rw [HVV.out]; rfl), (by simp only [une xs 9 5 rfl, une xs 10 5 rfl]; exact hA), h16⟩
        focus
         obtain ⟨d4, d5, _⟩ := hd
         obtain ⟨ρ, hρ⟩ : ∃ ρ, a'.eval = ρ := ⟨_, rfl⟩
         have hcst := cstE hρ
         have v4 : ρ (.tmp 52) = .slice (some ⟨bw, ow, none⟩) W.length cw := (congrFun hρ (.tmp 52)).symm.trans ((HF.out.ev 4 rfl d4).trans (HVA.out 4 _ (by rw [HVV.out]; rfl) d4))
         have v5 : ρ (.tmp 53) = .int .i64 (k : Nat) := (congrFun hρ (.tmp 53)).symm.trans ((HF.out.ev 5 rfl d5).trans (HVA.out 5 _ (by rw [HVV.out]; rfl) d5))
         rw [if_pos (by simp [Region.wanted])]
         unfold Oper.wp
         rw [hρ]
         clear hρ
         go_simp
         exact hK.out _ _ ⟨HVA.out.set (i := 6) (by rw [HVV.out]; rfl), (by simp only [une xs 9 6 rfl, une xs 10 6 rfl]; exact hA), h16⟩
        focus
         obtain ⟨d6, _⟩ := hd
         obtain ⟨ρ, hρ⟩ : ∃ ρ, a'.eval = ρ := ⟨_, rfl⟩
         have hcst := cstE hρ
         have v6 : ρ (.tmp 54) = .pointer (some ⟨bw, ow + k, none⟩) := (congrFun hρ (.tmp 54)).symm.trans ((HF.out.ev 6 rfl d6).trans (HVA.out 6 _ (by rw [HVV.out]; rfl) d6))
         have m1 := HWC.out _ hA.hb
         rw [if_pos (by simp [Region.wanted])]
         unfold Oper.wp
         rw [hρ]
         clear hρ
         go_simp
         exact hK.out _ _ ⟨HVA.out.set (i := 7) (by rw [HVV.out]; rfl), (by simp only [une xs 9 7 rfl, une xs 10 7 rfl]; exact hA), h16⟩
        focus
         obtain ⟨d3, d7, _⟩ := hd
         obtain ⟨ρ, hρ⟩ : ∃ ρ, a'.eval = ρ := ⟨_, rfl⟩
         have hcst := cstE hρ
         have v3 : ρ (.tmp 51) = .slice ai (lotAt f.lots k).ins.length ci := (congrFun hρ (.tmp 51)).symm.trans ((HF.out.ev 3 rfl d3).trans (HVA.out 3 _ (by rw [HVV.out]; rfl) d3))
         have v7 : ρ (.tmp 55) = .slice ar (rowAt W k).length cr := (congrFun hρ (.tmp 55)).symm.trans ((HF.out.ev 7 rfl d7).trans (HVA.out 7 _ (by rw [HVV.out]; rfl) d7))
         rw [if_pos (by simp [Region.wanted])]
         unfold Oper.wp
         rw [hρ]
         clear hρ
         go_simp
         exact hK.out _ _ ⟨HVA.out.set (i := 8) (by rw [HVV.out]; rfl), (by simp only [une xs 9 8 rfl, une xs 10 8 rfl]; exact hA), h16⟩
        focus
         obtain ⟨d8, _⟩ := hd
         obtain ⟨ρ, hρ⟩ : ∃ ρ, a'.eval = ρ := ⟨_, rfl⟩
         have hcst := cstE hρ
         have v8 : ρ (.tmp 56) = .agg #[.slice ai (lotAt f.lots k).ins.length ci, .bool true, .slice ar (rowAt W k).length cr] := (congrFun hρ (.tmp 56)).symm.trans ((HF.out.ev 8 rfl d8).trans (HVA.out 8 _ (by rw [HVV.out]; rfl) d8))
         rw [if_pos (by simp [Region.wanted])]
         unfold Oper.wp
         rw [hρ]
         clear hρ
         go_simp
         exact hK.out _ _ ⟨HVA.out.free (i := 9) (by rw [HVV.out]; rfl) _, (by simp only [une xs 10 9 rfl, updV_self]; exact hA.sb HLI.out _ rfl), h16⟩
        focus
         obtain ⟨d1, d9, _⟩ := hd
         have v1 : a'.eval (.tmp 49) = .slice av nv cv := (HF.out.ev 1 rfl d1).trans (HVA.out 1 _ (by rw [HVV.out]; rfl) d1)
         have v9 : a'.eval (.tmp 57) = xs 9 := HF.out.ev 9 rfl d9
         rw [if_pos (by simp [Region.wanted])]
         obtain ⟨q, e13, q1, q2⟩ := hA.hq d9 HLI.out
         rw [e13] at v9
         have hsrc : SrcLots w.heap.size w' (.slice (some ⟨q, 0, none⟩) 1 1) [⟨(lotAt f.lots k).ins, true, rowAt W k⟩] := srcLots_one (q2.cell 0) (q2.cell 1) (q2.cell 2) (HLX.out _ hA.hb)
         obtain ⟨v5, w5, y1, y2, y3, y4⟩ := run_append_lots (ty := 22) (hA.hv HLI.out) hsrc (by have := HLL.out; simp; omega) (Nat.le_trans hA.hC.2.2 hA.sz)
         refine wp_of_append w' rfl v1 v9 y1 ?_
         exact hK.out _ _ ⟨HVA.out.free (i := 10) (by rw [HVV.out]; rfl) _, (by simp only [une xs 9 10 rfl, updV_self]; exact hA.sa HLI.out d9 y2 y3 y4), (fun e => by have := (h16 e).2; rw [HLI.out] at this; cases this)⟩
        focus
         obtain ⟨d0, d1, d2, d3, d4, d5, d6, d7, d8, d9, d10, _⟩ := hd
         obtain ⟨ρ, hρ⟩ : ∃ ρ, a'.eval = ρ := ⟨_, rfl⟩
         have hcst := cstE hρ
         have l9 : ρ (.tmp 9) = .pointer (some ⟨c2, 0, none⟩) := (congrFun hρ (.tmp 9)).symm.trans (HF.out.lo 9 rfl)
         rw [if_pos (by simp [Region.wanted])]
         unfold Oper.wp
         rw [hρ]
         clear hρ
         go_simp
         exact hK.out _ _ ⟨HVA.out.set (i := 11) (by rw [HVV.out]; rfl), (by simp only [une xs 9 11 rfl, une xs 10 11 rfl]; exact hA), h16⟩
        focus
         obtain ⟨d11, d10, _, d0, d1, d2, d3, d4, d5, d6, d7, d8, d9, _, _⟩ := hd
         obtain ⟨ρ, hρ⟩ : ∃ ρ, a'.eval = ρ := ⟨_, rfl⟩
         have hcst := cstE hρ
         have v11 : ρ (.tmp 59) = .pointer (some ⟨c2, 1, none⟩) := (congrFun hρ (.tmp 59)).symm.trans ((HF.out.ev 11 rfl d11).trans (HVA.out 11 _ (by rw [HVV.out]; rfl) d11))
         have v10 : ρ (.tmp 58) = xs 10 := (congrFun hρ (.tmp 58)).symm.trans (HF.out.ev 10 rfl d10)
         rw [if_pos (by simp [Region.wanted])]
         unfold Oper.wp
         rw [hρ]
         clear hρ
         obtain ⟨o1, o2, _⟩ := hA.ha d10
         obtain ⟨a8, n8, c8, e8⟩ : ∃ a n c, xs 10 = .slice a n c := by obtain ⟨a, c, e⟩ := o1.form; exact ⟨_, _, _, e⟩
         have HE8 := Lib.hid e8
         rw [e8] at v10
         have hSS := Lib.hid (hA.ss HLI.out d10)
         rw [e8] at hSS
         have fz := (hA.hc HLI.out).free 1
         have m1 := (hA.hc HLI.out).cell 1
         simp at m1
         clear o1 o2 e8
         go_simp
         exact hK.out undef _ ⟨HVA.out.free (i := 12) (by rw [HVV.out]; rfl) _, (by simp only [une xs 9 12 rfl, une xs 10 12 rfl]; rw [HE8.out]; exact hSS.out), (fun _ => ⟨d1, d10⟩)⟩
       focus
        intro L w' xs hL hJ
        obtain ⟨hv, hA, h16⟩ := hJ
        have e0 : xs 0 = .pointer (some ⟨c2, 1, none⟩) := hv 0 _ (by rw [HVV.out]; rfl) (hL 0 (by decide))
        have e1 : xs 1 = .slice av nv cv := hv 1 _ (by rw [HVV.out]; rfl) (hL 1 (by decide))
        have e2 : xs 2 = .pointer (some ⟨zL, 0, none⟩) := hv 2 _ (by rw [HVV.out]; rfl) (hL 2 (by decide))
        have e3 : xs 3 = .slice ai (lotAt f.lots k).ins.length ci := hv 3 _ (by rw [HVV.out]; rfl) (hL 3 (by decide))
        have e4 : xs 4 = .slice (some ⟨bw, ow, none⟩) W.length cw := hv 4 _ (by rw [HVV.out]; rfl) (hL 4 (by decide))
        have e5 : xs 5 = .int .i64 (k : Nat) := hv 5 _ (by rw [HVV.out]; rfl) (hL 5 (by decide))
        have e6 : xs 6 = .pointer (some ⟨bw, ow + k, none⟩) := hv 6 _ (by rw [HVV.out]; rfl) (hL 6 (by decide))
        have e7 : xs 7 = .slice ar (rowAt W k).length cr := hv 7 _ (by rw [HVV.out]; rfl) (hL 7 (by decide))
        have e8 : xs 8 = .agg #[.slice ai (lotAt f.lots k).ins.length ci, .bool true, .slice ar (rowAt W k).length cr] := hv 8 _ (by rw [HVV.out]; rfl) (hL 8 (by decide))
        have e11 : xs 11 = .pointer (some ⟨c2, 1, none⟩) := hv 11 _ (by rw [HVV.out]; rfl) (hL 11 (by decide))
        simp only [putGo, Act.put, List.setIfInBounds_toArray, List.set_cons_zero, List.set_cons_succ, e0, e1, e2, e3, e4, e5, e6, e7, e8, e11]
        clear hv e0 e1 e2 e3 e4 e5 e6 e7 e8 e11
       have hX := (h16 (hL 12 (by decide))).2
       have hX12 := hL 12 (by decide)
       have HAP := Lib.hid hA
       clear h16 hA hL
       go_wp2
       go_roundw
       case rel =>
        obtain ⟨o1, o2, o3⟩ := HAP.out.ha hX
        refine ⟨k + 1, xs 10, by omega, by go_num, by rw [HLS.out]; exact o1, o2, fun e => ?_, ⟨Nat.lt_of_lt_of_le n6 HAP.out.sz, fun i => (HAP.out.cell n6 n0 n3).trans (HX0B.out.2 i)⟩, HAP.out.he hX12, HAP.out.hb, HKS.out⟩
        rcases o3 with o3 | ⟨q, o3, hq⟩
        ·rw [o3] at e; exact n3 e
        ·rw [o3] at e; simp at e; omega
       case measure => simp [intOf]; omega
    ·obtain rfl : k = f.lots.length := by omega
     obtain ⟨av, cv, rfl⟩ := hv.form
     have y0 := HY2.out.cell 0
     have y1 := HY2.out.cell 1
     simp at y0 y1
     have HRM : Hid (RB = (decide (mapE (alongF f W) = 0) && sameB (mapR (alongF f W)) zs)) := Lib.hid (by rw [← HRB.out]; exact right_map HCK.out HLW.out HKR.out)
     have HMP := Lib.hid (fmap_any wr.heap.size wr (.int .i64 f.senders) (.slice av (alongL f W f.lots.length).length cv) (alongF f W) ⟨rfl, ⟨hs1, hs2⟩, HV.out.isLots HBR.out.size⟩ (Nat.le_refl _))
     obtain ⟨ME, hME⟩ : ∃ x, mapE (alongF f W) = x := ⟨_, rfl⟩
     obtain ⟨MR, hMR⟩ : ∃ x, mapR (alongF f W) = x := ⟨_, rfl⟩
     rw [hME] at HMP HRM
     rw [hMR] at HMP HRM
     clear hME hMR hv x0 hlt
     by_cases hm : ME = 0
     ·have hm1 : (ME == 0) = true := by simpa using hm
      have HM0 := Lib.hid hm
      obtain ⟨SB, hSB⟩ : ∃ x, sameB MR zs = x := ⟨_, rfl⟩
      have HRM2 : Hid (RB = SB) := Lib.hid (by rw [HRM.out, decide_eq_true hm, Bool.true_and, hSB])
      have HSB := Lib.hid hSB
      clear hm hSB
      go_wp2_with (first
       | (go_at_call 33; refine HMP.out.mono ?_; rintro e w5 ⟨v5, rfl, ho5, hb5⟩; obtain ⟨a5, n5, c5, rfl⟩ := ho5.form'; have HO5 := Lib.hid ho5; have HB5 := Lib.hid hb5; clear ho5 hb5)
       | (go_at_call 22; refine (equal_any _ B w5 _ _ _ _ HO5.out.isInts (HZ.out.below (HBR.out.trans (HB5.out.mono HBR.out.size)) hB)).mono ?_; rintro e w6 ⟨rfl, hd6⟩; rw [HSB.out]; have HD6 := Lib.hid hd6; clear hd6))
      go_ret2
      exact ⟨by rw [HRM2.out, HE0.out]; rfl, (HBR.out.trans (HB5.out.mono HBR.out.size)).trans (HD6.out.below _)⟩
     ·have hm1 : (ME == 0) = false := by simpa using hm
      have hrb : RB = false := by rw [HRM.out, decide_eq_false hm, Bool.false_and]
      clear hm
      go_wp2_with (go_at_call 33; refine HMP.out.mono ?_; rintro e w5 ⟨v5, rfl, ho5, hb5⟩; obtain ⟨a5, n5, c5, rfl⟩ := ho5.form'; have HO5 := Lib.hid ho5; have HB5 := Lib.hid hb5; clear ho5 hb5)
      go_ret2
      exact ⟨by rw [hrb, HE0.out]; rfl, HBR.out.trans (HB5.out.mono HBR.out.size)⟩
  ·have hd : ((W.length : Int) != (f.lots.length : Int)) = true := by simp; omega
   have hd2 : (W.length != f.lots.length) = true := by simpa using hlw
   have hrb : RB = false := by rw [← HRB.out]; exact right_len hlw
   clear hlw
   go_wp2
   go_ret2
   exact ⟨by rw [hrb, HE0.out]; rfl, HW2.out⟩
 ·have he1 : (ER != 0) = true := by simpa using he
  have hrb : RB = false := by rw [← HRB.out]; exact right_err (by rw [HER.out]; exact he)
  clear he
  go_wp2
  go_ret2
  exact ⟨by rw [hrb]; rfl, HW2.out⟩
end Go.Proofs.YteiaeaciaglmgaaGreat
namespace Go.Proofs.YteiaeaciaglmgaaGreat
open Go.RowKit
/-- block bm is a map of the senders below n, each at its spot -/
def OfMap (W : World) (bm n : Nat) (P : Nat → Int) : Prop := ∃ l, IntMap W bm l ∧ Sat n P l
theorem OfMap.turned {X : Nat → Prop} {W W' : World} {bm n : Nat} {P : Nat → Int} (h : OfMap W bm n P) (ht : Turned X W W') (hx : ¬ X bm) : OfMap W' bm n P := by
 obtain ⟨l, h1, h2⟩ := h
 exact ⟨l, h1.turned ht hx, h2⟩
theorem OfMap.ext {W W' : World} {bm n : Nat} {P : Nat → Int} (h : OfMap W bm n P) (hb : Below W.heap.size W W') : OfMap W' bm n P := by
 obtain ⟨l, h1, h2⟩ := h
 exact ⟨l, h1.ext hb, h2⟩
theorem OfMap.eq {W : World} {bm n : Nat} {P P' : Nat → Int} (h : OfMap W bm n P) (he : ∀ s, s < n → P s = P' s) : OfMap W bm n P' := by
 obtain ⟨l, h1, h2⟩ := h
 exact ⟨l, h1, h2.eq he⟩
theorem OfMap.lt {W : World} {bm n : Nat} {P : Nat → Int} (h : OfMap W bm n P) : bm < W.heap.size := by obtain ⟨l, h, _⟩ := h; exact h.lt
set_option maxHeartbeats 2000000 in
set_option maxRecDepth 100000 in
/-- walk: move -/
theorem move_any (W : World) (cm bm n t : Nat) (P P' : Nat → Int) (y : Int) (h1 : Cell1 W cm (.map (some bm))) (h2 : OfMap W bm n P) (hne : cm ≠ bm) (ht : t < n) (hy : ∀ s, s < n → P s ≠ y) (hp : ∀ s, s < n → P' s = if s = t then y else P s) :
  Calls Tryz.prog 51 #[.int .i64 (P t), .int .i64 y, .pointer (some ⟨cm, 0, none⟩)] W fun e W' => (∃ v, e = .returned v) ∧ OfMap W' bm n P' ∧ Turned (fun q => q = bm) W W' := by
 obtain ⟨l, hl1, hl2⟩ := h2
 have HL := Lib.hid hl1
 have HS := Lib.hid (hl2.move ht hy hp)
 have HLK := Lib.hid (hl2.look ht)
 have m1 := h1.cell
 have HC := Lib.hid h1
 obtain ⟨x, hx⟩ : ∃ x, P t = x := ⟨_, rfl⟩
 rw [hx] at HS HLK ⊢
 clear hl1 hl2 hx h1
 go_enter Tryz.func51, Tryz.ntmps51
 go_wp2_with (first
  | (at_lookup; refine wpList_lookup_ints rfl _ _ false rfl Tryz.underlying57 Tryz.underlying3 (Tryz.zeroValue3 _) rfl HL.out rfl ?_; rw [HLK.out])
  | (at_mapUpdate; refine wpList_update_ints (x := y) (v := .int .i64 (t : Int)) rfl _ _ _ rfl Tryz.underlying57 Tryz.underlying3 rfl HL.out rfl rfl ?_; intro w8 hs8 hg8 hz8; have HS8 := Lib.hid hs8; have HG8 := Lib.hid hg8; clear hs8 hg8 hz8; have m2 := (HC.out.grown HG8.out (fun e => hne (by simpa using e))).cell)
  | (at_delete; refine wpList_delete_ints rfl _ _ rfl Tryz.underlying57 Tryz.underlying3 rfl HS8.out rfl ?_; intro w9 hm9 hg9 hz9; have HM9 := Lib.hid hm9; have HG9 := Lib.hid hg9; clear hm9 hg9 hz9))
 go_end0
 exact ⟨⟨_, rfl⟩, ⟨_, HM9.out, HS.out⟩, (Turned.of_grown HG8.out (fun q e => by simpa using e.symm)).trans (Turned.of_grown HG9.out (fun q e => by simpa using e.symm))⟩
set_option maxHeartbeats 4000000 in
set_option maxRecDepth 100000 in
/-- explain.lots.stuck -/
theorem stuck_any (C D B : Nat) (W : World) (q0 bm n : Nat) (vl va : Value) (f : Flow) (zs : List Int) (P : Nat → Int) (hlo : LotsAt C D W q0 vl f) (hc : checkE f = 0) (hof : OfMap W bm n P) (hz : IsInts B W va zs) (hn : zs.length = n) (hB : B ≤ W.heap.size) :
  Calls Tryz.prog 31 #[.pointer (some ⟨q0, 0, none⟩), .map (some bm), va] W fun e W' => e = .returned (.int .i64 (leastN (fun i => !leadE f (P i) (nth zs i)) n)) ∧ Below W.heap.size W W' := by
 obtain ⟨l, hl1, hl2⟩ := hof
 have HL := Lib.hid hl1
 have HS := Lib.hid hl2
 have HLO := Lib.hid hlo
 have HZ := Lib.hid hz
 obtain ⟨bz, oz, cz, ⟨az, rfl, hz1, hz2, hz3⟩, hz4, hz5, hzc⟩ := hz
 have HZ3 := Lib.hid hz3
 have HZC := Lib.hid hzc
 have hbm := hl1.lt
 have HN := Lib.hid hn
 clear hl1 hl2 hlo hz3 hzc hn
 go_enter Tryz.func31, Tryz.ntmps31
 go_wp2_with (refine wpList_range_ints rfl (.tmp 10) rfl Tryz.underlying57 rfl HL.out ?_; intro w9 hit9 hb9 hz9; have HIT9 := Lib.hid hit9; have HB9 := Lib.hid hb9; clear hit9 hb9 hz9)
 obtain ⟨r, hr⟩ : ∃ x, W.heap.size = x := ⟨_, rfl⟩
 have HR := Lib.hid hr
 rw [hr] at HIT9 hbm ⊢
 rw [hr] at HB9
 have hne : r ≠ bm := by omega
 clear hr
 simp only [Act.put, List.setIfInBounds_toArray, List.set_cons_zero, List.set_cons_succ]
 go_loopw [7] (fun v7 W' => ∃ (left : AL) (z : Int), v7 = .int .i64 z ∧ MapIter W' bm r l left ∧ (∀ p ∈ left, p ∈ l) ∧ Below r W W' ∧ -1 ≤ z ∧ z < n ∧
  (∀ j : Nat, j < n → (P j, Value.int .i64 (j : Int)) ∉ left → (!leadE f (P j) (nth zs j)) = true → 0 ≤ z ∧ z ≤ j) ∧ (0 ≤ z → (!leadE f (P z.toNat) (nth zs z.toNat)) = true)) (fun _ W' => iterLeft W' bm r)
 case atStart => exact ⟨l, -1, rfl, HIT9.out, fun p hp => hp, HB9.out, by omega, by omega, fun j hj hn => absurd ((HS.out.2 _ _).2 ⟨j, hj, rfl, rfl⟩) hn, fun h => by omega⟩
 case round =>
  obtain ⟨left, z, rfl, hit, hsub, hbl, hz0, hzn, hdone, hbad⟩ := hrel
  have HIT := Lib.hid hit
  have HLEFT := Lib.hid hit.left
  have HSUB := Lib.hid hsub
  have HBL := Lib.hid hbl
  have HDO := Lib.hid hdone
  have HBA := Lib.hid hbad
  clear hit hsub hbl hdone hbad HIT9 HB9
  by_cases hlf : left = []
  ·have HRES : Hid (leastN (fun i => !leadE f (P i) (nth zs i)) n = z) := Lib.hid (by
    by_cases h0 : 0 ≤ z
    ·rw [leastN_first (i := z.toNat) (by omega) (fun j hj => by
      cases e : (!leadE f (P j) (nth zs j)) with
      | false => rfl
      | true => have := HDO.out j (by omega) (by rw [hlf]; simp) e; omega) (HBA.out h0)]
     omega
    ·rw [leastN_none (fun j hj => by
      cases e : (!leadE f (P j) (nth zs j)) with
      | false => rfl
      | true => have := HDO.out j hj (by rw [hlf]; simp) e; omega)]
     omega)
   go_wp2_with (refine wpList_next_doneA rfl (.tmp 11) rfl rfl HIT.out hne hlf ?_)
   go_ret
   exact ⟨by rw [HRES.out]; rfl, by rw [HR.out]; exact HBL.out⟩
  ·go_upto_region 5 with (refine wpList_next_moreA rfl (.tmp 11) rfl rfl HIT.out hne hlf ?_; intro A x v B' w3 hl2 hit3 hg3 hz3 hen; have HIT3 := Lib.hid hit3; have HG3 := Lib.hid hg3; have HL2 := Lib.hid hl2; obtain ⟨s, hs, hps, rfl⟩ := (HS.out.2 x v).1 (HSUB.out _ (by rw [hl2]; simp)); have HPS := Lib.hid hps; clear hit3 hg3 hz3 hl2 hps)
   have hl2 := HL2.out
   have hps := HPS.out
   have HB3 : Hid (Below r W w3) := Lib.hid (HBL.out.grown HG3.out (by have := HBL.out.size; rw [← HR.out]; exact this) (fun q hq => by cases hq; exact Nat.le_refl _))
   have HLN : Hid ((A ++ B').length < left.length) := Lib.hid (by rw [hl2]; simp)
   have HLF3 := Lib.hid HIT3.out.left
   have HSUB2 : Hid (∀ p ∈ A ++ B', p ∈ l) := Lib.hid fun p hp => HSUB.out p (by
    rw [hl2]
    rcases List.mem_append.1 hp with h | h
    ·exact List.mem_append_left _ h
    ·exact List.mem_append_right _ (List.mem_cons_of_mem _ h))
   have HIN2 : Hid (∀ j : Nat, j ≠ s → (P j, Value.int .i64 (j : Int)) ∉ A ++ B' → (P j, Value.int .i64 (j : Int)) ∉ left) := Lib.hid fun j hjs hn h => hn (by
    rw [hl2] at h
    rcases List.mem_append.1 h with h | h
    ·exact List.mem_append_left _ h
    ·rcases List.mem_cons.1 h with h | h
     ·simp only [Prod.mk.injEq, Value.int.injEq] at h
      exact absurd (by have := h.2; omega) hjs
     ·exact List.mem_append_right _ h)
   have hbs : s < zs.length := by rw [HN.out]; exact hs
   obtain rfl : az = some ⟨bz, oz, none⟩ := by rcases HZ3.out with h | h; exact h; omega
   have hbz := (HZC.out s hbs).1
   have c1 := (HB3.out.cell (p := ⟨bz, oz + s, none⟩) (by rw [← HR.out]; show bz < _; omega)).trans (HZC.out s hbs).2
   have HLOT := Lib.hid (HLO.out.turned (X := fun q => r ≤ q) ⟨HB3.out.os, HB3.out.tape, HB3.out.output, HB3.out.size, fun q hq hx => HB3.out.block q (by omega)⟩ (fun q a1 a2 hx => by
    obtain ⟨_, _, _, _, g1, g2, g3, g4, _⟩ := HLO.out.lay
    rw [HR.out] at g4
    omega))
   obtain ⟨LE, hLE⟩ : ∃ y, leadE f (P s) (nth zs s) = y := ⟨_, rfl⟩
   have HLE := Lib.hid hLE
   rw [hps] at hLE
   have HLE2 := Lib.hid hLE
   obtain ⟨xs, hxs⟩ : ∃ y, nth zs s = y := ⟨_, rfl⟩
   rw [hxs] at c1
   rw [hxs] at HLE2
   clear hl2 hps hLE hxs hbz
   cases LE
   ·by_cases hzz : z < 0
    ·have hd1 : decide (z < 0) = true := decide_eq_true hzz
     go_wp2_with (go_at_call 25; refine (leads_any C D w3 q0 vl f _ _ HLOT.out hc).mono ?_; rintro e w9 ⟨rfl, rfl⟩; rw [HLE2.out])
     go_roundw
     case rel =>
      refine ⟨A ++ B', (s : Int), rfl, HIT3.out, HSUB2.out, HB3.out, by omega, by omega, fun j hj hn hb => ⟨by omega, ?_⟩, fun _ => by simp [HLE.out]⟩
      by_cases e : j = s
      ·omega
      ·have := HDO.out j hj (HIN2.out j e hn) hb; omega
     case measure => rw [HLF3.out, HLEFT.out]; exact HLN.out
    ·have hd1 : decide (z < 0) = false := decide_eq_false hzz
     by_cases hsz : (s : Int) < z
     ·have hd2 : decide ((s : Int) < z) = true := decide_eq_true hsz
      go_wp2_with (go_at_call 25; refine (leads_any C D w3 q0 vl f _ _ HLOT.out hc).mono ?_; rintro e w9 ⟨rfl, rfl⟩; rw [HLE2.out])
      go_roundw
      case rel =>
       refine ⟨A ++ B', (s : Int), rfl, HIT3.out, HSUB2.out, HB3.out, by omega, by omega, fun j hj hn hb => ⟨by omega, ?_⟩, fun _ => by simp [HLE.out]⟩
       by_cases e : j = s
       ·omega
       ·have := HDO.out j hj (HIN2.out j e hn) hb; omega
      case measure => rw [HLF3.out, HLEFT.out]; exact HLN.out
     ·have hd2 : decide ((s : Int) < z) = false := decide_eq_false hsz
      go_wp2_with (go_at_call 25; refine (leads_any C D w3 q0 vl f _ _ HLOT.out hc).mono ?_; rintro e w9 ⟨rfl, rfl⟩; rw [HLE2.out])
      go_roundw
      case rel =>
       refine ⟨A ++ B', z, rfl, HIT3.out, HSUB2.out, HB3.out, hz0, hzn, fun j hj hn hb => ?_, HBA.out⟩
       by_cases e : j = s
       ·omega
       ·exact HDO.out j hj (HIN2.out j e hn) hb
      case measure => rw [HLF3.out, HLEFT.out]; exact HLN.out
   ·go_wp2_with (go_at_call 25; refine (leads_any C D w3 q0 vl f _ _ HLOT.out hc).mono ?_; rintro e w9 ⟨rfl, rfl⟩; rw [HLE2.out])
    go_roundw
    case rel =>
     refine ⟨A ++ B', z, rfl, HIT3.out, HSUB2.out, HB3.out, hz0, hzn, fun j hj hn hb => ?_, HBA.out⟩
     by_cases e : j = s
     ·subst e; rw [HLE.out] at hb; cases hb
     ·exact HDO.out j hj (HIN2.out j e hn) hb
    case measure => rw [HLF3.out, HLEFT.out]; exact HLN.out
end Go.Proofs.YteiaeaciaglmgaaGreat
namespace Go.Proofs.YteiaeaciaglmgaaGreat
open Go.RowKit
/-- one letter goes from x to y, where none was -/
structure StepM (n : Nat) (P P' : Nat → Int) (x y : Int) : Prop where
 ex : ∃ t, t < n ∧ P t = x ∧ P' t = y ∧ (∀ s, s < n → P s ≠ y) ∧ (∀ s, s < n → P' s ≠ x) ∧ ∀ s, s < n → s ≠ t → P' s = P s
theorem StepM.back {n : Nat} {P P' : Nat → Int} {x y : Int} (h : StepM n P P' x y) : StepM n P' P y x := by
 obtain ⟨t, h1, h2, h3, h4, h5, h6⟩ := h.ex
 exact ⟨t, h1, h3, h2, h5, h4, fun s hs he => (h6 s hs he).symm⟩
/-- where a sender's letter is, if the first i inputs of the next lot go by a row -/
def posR (f : Flow) (w : List (List Int)) (i : Nat) (row : List Int) (s : Nat) : Int := mvI ((lotAt f.lots w.length).ins.take i) row (beforeI f w.length) (posW f w w.length s)
theorem posS_R (f : Flow) (w : List (List Int)) (part : List Int) : posS f w part = posR f w part.length part := rfl
theorem mv_row {ins : List Int} (hn : ins.Nodup) {q : Nat} (hq : q ≤ ins.length) {r r' : List Int} (h : ∀ j, j < q → nth r j = nth r' j) (b y : Int) : mvI (ins.take q) r b y = mvI (ins.take q) r' b y := by
 unfold mvI
 by_cases hh : hasB (ins.take q) y = true
 ·rw [if_pos hh, if_pos hh, h _ (take_idx hn hq hh).1]
 ·rw [if_neg hh, if_neg hh]
theorem mv_cases {ins : List Int} (hn : ins.Nodup) {q : Nat} (hq : q ≤ ins.length) (r : List Int) (b y : Int) : (∃ j, j < q ∧ mvI (ins.take q) r b y = b + nth r j) ∨ mvI (ins.take q) r b y = y := by
 unfold mvI
 by_cases hh : hasB (ins.take q) y = true
 ·rw [if_pos hh]; exact .inl ⟨_, (take_idx hn hq hh).1, rfl⟩
 ·rw [if_neg hh]; exact .inr rfl
theorem nth_pre {l : List Int} {x : Int} {j : Nat} (h : j < l.length) : nth (l ++ [x]) j = nth l j := by
 rw [nth_lt (by simp; omega), nth_lt h, List.getElem_append_left h]
theorem posR_step {f : Flow} {w : List (List Int)} (hc : checkE f = 0) (hw : WayOk f w w.length) (hk : w.length < f.lots.length) {i : Nat} (hi : i < (lotAt f.lots w.length).ins.length) {row : List Int} (hlow : ∀ j, j ≤ i → 0 ≤ nth row j) (hd : ∀ j, j < i → nth row j ≠ nth row i) :
  StepM f.senders.toNat (posR f w i row) (posR f w (i + 1) row) (nth (lotAt f.lots w.length).ins i) (beforeI f w.length + nth row i) := by
 obtain ⟨h0, h64, hl2, hb5, hlo⟩ := checkE_ok hc
 have hl : lotsB f w.length = true := lotsB_le hlo (by omega)
 obtain ⟨l1, l2, l3, _⟩ := lotB_parts (lotsB_lot hlo hk)
 obtain ⟨g1, g2, g3⟩ := l3 _ (nth_mem' hi)
 obtain ⟨t, ht, e⟩ := pos_hit h0 (Nat.le_of_lt hk) hl hw g1 g2 g3
 have hlt : ∀ s, s < f.senders.toNat → posW f w w.length s < beforeI f w.length := fun s hs => (pos_lt h0 (Nat.le_of_lt hk) hl hw hs).2.1
 have hin : ∀ s, s < f.senders.toNat → nth (lotAt f.lots w.length).ins i = posW f w w.length s → s = t := fun s hs h => pos_inj h0 (Nat.le_of_lt hk) hl hw hs ht (h.symm.trans e.symm)
 have hnt : hasB ((lotAt f.lots w.length).ins.take i) (nth (lotAt f.lots w.length).ins i) = false := by
  cases hh : hasB ((lotAt f.lots w.length).ins.take i) (nth (lotAt f.lots w.length).ins i) with
  | false => rfl
  | true =>
   have h1 := take_idx l2 (Nat.le_of_lt hi) hh
   have h2 := (idx_take l2 (show i < i + 1 by omega) (show i + 1 ≤ _ by omega))
   have h3 : (lotAt f.lots w.length).ins.idxOf (nth (lotAt f.lots w.length).ins i) = i := by
    rw [← (take_idx l2 (show i + 1 ≤ _ by omega) h2.2).2.1]; exact h2.1
   omega
 refine ⟨t, ht, ?_, ?_, fun s hs => ?_, fun s hs => ?_, fun s hs hne => ?_⟩
 ·unfold posR
  rw [e]
  unfold mvI
  rw [if_neg (by simp [hnt])]
 ·unfold posR
  rw [mv_next l2 hi, if_pos e.symm]
 ·unfold posR
  rcases mv_cases l2 (Nat.le_of_lt hi) row (beforeI f w.length) (posW f w w.length s) with ⟨j, hj, h⟩ | h
  ·rw [h]; have := hd j hj; omega
  ·rw [h]; have := hlt s hs; have := hlow i (Nat.le_refl _); omega
 ·unfold posR
  rw [mv_next l2 hi]
  by_cases he : nth (lotAt f.lots w.length).ins i = posW f w w.length s
  ·rw [if_pos he]; have := hlow i (Nat.le_refl _); omega
  ·rw [if_neg he]
   rcases mv_cases l2 (Nat.le_of_lt hi) row (beforeI f w.length) (posW f w w.length s) with ⟨j, hj, h⟩ | h
   ·rw [h]; have := hlow j (by omega); omega
   ·rw [h]; exact fun h => he h.symm
 ·unfold posR
  rw [mv_next l2 hi, if_neg (fun h => hne (hin s hs h))]
/-- one more input decided -/
theorem posS_more {f : Flow} {w : List (List Int)} {part : List Int} (hc : checkE f = 0) (hs : StOk f w part) (hk : w.length < f.lots.length) (hp : part.length < (lotAt f.lots w.length).ins.length) {x : Int} (h0 : 0 ≤ x) (hx : hasB part x = false) :
  StepM f.senders.toNat (posS f w part) (posS f w (part ++ [x])) (nth (lotAt f.lots w.length).ins part.length) (beforeI f w.length + x) := by
 obtain ⟨_, _, _, _, hlo⟩ := checkE_ok hc
 obtain ⟨_, l2, _⟩ := lotB_parts (lotsB_lot hlo hk)
 have h := posR_step hc hs.way hk hp (row := part ++ [x]) (fun j hj => by
  by_cases e : j < part.length
  ·rw [nth_pre e, nth_lt e]; exact (hs.low _ (List.getElem_mem e)).1
  ·obtain rfl : j = part.length := by omega
   rw [nth_snoc]; exact h0) (fun j hj h => by
  rw [nth_snoc, nth_pre hj] at h
  rw [← h, hasB_mem.2 (nth_mem' hj)] at hx
  cases hx)
 rw [nth_snoc] at h
 have e1 : posS f w part = posR f w part.length (part ++ [x]) := by
  funext s
  exact mv_row l2 (by omega) (fun j hj => (nth_pre hj).symm) _ _
 have e2 : posS f w (part ++ [x]) = posR f w (part.length + 1) (part ++ [x]) := by
  rw [posS_R]
  simp
 rw [e1, e2]
 exact h
theorem posS_full {f : Flow} {w : List (List Int)} {row : List Int} (hk : w.length < f.lots.length) {s : Nat} : posR f w (lotAt f.lots w.length).ins.length row s = posS f (w ++ [row]) [] s := by
 unfold posS posR
 simp only [List.length_nil, List.take_length]
 rw [mv_zero, List.length_append, List.length_singleton, pos_step hk, pos_same (w := w ++ [row]) (w' := w) (Nat.le_of_lt hk) (fun j hj => by rw [rowAt_app, if_pos hj]) s]
 rw [show rowAt (w ++ [row]) w.length = row by rw [rowAt_app, if_neg (by omega), if_pos rfl]]
 rfl
theorem posS_zero (f : Flow) (w : List (List Int)) (row : List Int) : posR f w 0 row = posS f w [] := by
 funext s
 unfold posS posR
 simp only [List.length_nil]
 rw [mv_zero, mv_zero]
/-- walk: move, by a step -/
theorem move_step (W : World) (co bm n : Nat) (P P' : Nat → Int) (x y : Int) (h1 : Cell1 W co (.map (some bm))) (h2 : OfMap W bm n P) (hne : co ≠ bm) (hs : StepM n P P' x y) :
  Calls Tryz.prog 51 #[.int .i64 x, .int .i64 y, .pointer (some ⟨co, 0, none⟩)] W fun e W' => (∃ v, e = .returned v) ∧ OfMap W' bm n P' ∧ Turned (fun q => q = bm) W W' := by
 obtain ⟨t, ht, rfl, q2, q3, q4, q5⟩ := hs.ex
 refine move_any W co bm n t P P' y h1 h2 hne ht q3 (fun s hs' => ?_)
 by_cases e : s = t
 ·rw [if_pos e, e, q2]
 ·rw [if_neg e, q5 s hs' e]
set_option maxHeartbeats 2000000 in
set_option maxRecDepth 100000 in
/-- slices.Clone of nil -/
theorem clone_nil (w : World) :
  Calls Tryz.prog 45 #[.slice none 0 0] w fun e w' => e = .returned (.slice none 0 0) ∧ w' = w := by
 have hnil : (binOp .eql 25 (.slice none 0 0) (.slice none 0 0)).run Tryz.prog w = .ok (.bool true) w := Go.Lib.run_eql_slice_nil w _ _ _ _ _ _ _ Tryz.underlying25
 go_enter Tryz.func45, Tryz.ntmps45
 go_wp2
 go_ret
 exact ⟨rfl, rfl⟩
/-- slices.Clone of a list: nil or made -/
theorem clone_own (B : Nat) (w : World) (v : Value) (xs : List Int) (hx : IsInts B w v xs) (hv : v = .slice none 0 0 ∧ xs = [] ∨ ∃ b o c, v = .slice (some ⟨b, o, none⟩) xs.length c) (hB : B ≤ w.heap.size) :
  Calls Tryz.prog 45 #[v] w fun e w' => ∃ v', e = .returned v' ∧ OwnInts w.heap.size w' v' xs ∧ Below w.heap.size w w' := by
 rcases hv with ⟨rfl, rfl⟩ | ⟨b, o, c, rfl⟩
 ·refine (clone_nil w).mono ?_
  rintro e w' ⟨rfl, rfl⟩
  exact ⟨_, rfl, OwnInts.nil _ _, Below.refl _ _⟩
 ·exact clone_any B b o c w xs hx hB
end Go.Proofs.YteiaeaciaglmgaaGreat
namespace Go.Proofs.YteiaeaciaglmgaaGreat
open Go.RowKit
/-- the blocks of walk -/
structure EnvW where
 B : Nat
 C : Nat
 C0 : Nat
 D0 : Nat
 q0 : Nat
 cx : Nat
 cp : Nat
 co : Nat
 bm : Nat
 cm : Nat
 cd : Nat
 pf : Nat
 p1 : Value
 p2 : Value
 p3 : Value
 p4 : Value
 vl : Value
 f : Flow
structure EnvW.Ok (E : EnvW) : Prop where
 o1 : E.B ≤ E.cp
 o2 : E.cp < E.C0
 o3 : E.C0 ≤ E.D0
 x1 : E.D0 ≤ E.cx ∧ E.cx < E.C
 x2 : E.D0 ≤ E.co ∧ E.co < E.C
 x3 : E.D0 ≤ E.bm ∧ E.bm < E.C
 x4 : E.D0 ≤ E.cm ∧ E.cm < E.C
 x5 : E.D0 ≤ E.cd ∧ E.cd < E.C
 ne : E.bm ≠ E.cx ∧ E.bm ≠ E.co ∧ E.bm ≠ E.cm ∧ E.bm ≠ E.cd
def EnvW.n (E : EnvW) : Nat := E.f.senders.toNat
def EnvW.PV (E : EnvW) : Value := .func (.func E.pf) #[] #[E.p1, E.p2, E.p3, E.p4]
def EnvW.MV (E : EnvW) : Value := .func (.func 51) #[] #[.pointer (some ⟨E.co, 0, none⟩)]
def EnvW.DV (E : EnvW) : Value := .func (.func 52) #[] #[.pointer (some ⟨E.cx, 0, none⟩), .pointer (some ⟨E.cp, 0, none⟩), .pointer (some ⟨E.co, 0, none⟩), .pointer (some ⟨E.cm, 0, none⟩), .pointer (some ⟨E.cd, 0, none⟩)]
/-- a block that is none of the walk's -/
def EnvW.Free (E : EnvW) (q : Nat) : Prop := E.B ≤ q ∧ q < E.C0 ∧ q ≠ E.cp ∨ E.C ≤ q
/-- what a walk keeps at a state -/
structure WalkS (E : EnvW) (w : List (List Int)) (part : List Int) (W : World) : Prop where
 lots : LotsAt E.C0 E.D0 W E.q0 E.vl E.f
 flow : IsLots E.B W E.vl E.f.lots
 cx : Cell1 W E.cx (.pointer (some ⟨E.q0, 0, none⟩))
 cp : Cell1 W E.cp E.PV
 co : Cell1 W E.co (.map (some E.bm))
 cm : Cell1 W E.cm E.MV
 cd : Cell1 W E.cd E.DV
 mp : OfMap W E.bm E.n (posS E.f w part)
 sz : E.C ≤ W.heap.size
theorem WalkS.moved {E : EnvW} (hE : E.Ok) {w w' : List (List Int)} {part part' : List Int} {W W' : World} (h : WalkS E w part W) {X : Nat → Prop} (ht : Turned (fun q => q = E.bm ∨ X q) W W') (hX : ∀ q, X q → E.Free q) (hm : OfMap W' E.bm E.n (posS E.f w' part')) : WalkS E w' part' W' := by
 have h1 := hE.o1
 have h2 := hE.o2
 have h3 := hE.o3
 have x1 := hE.x1
 have x2 := hE.x2
 have x3 := hE.x3
 have x4 := hE.x4
 have x5 := hE.x5
 obtain ⟨n1, n2, n3, n4⟩ := hE.ne
 have hn : ∀ q, q ≠ E.bm → (q < E.B ∨ E.C0 ≤ q ∧ q < E.C ∨ q = E.cp) → ¬ (q = E.bm ∨ X q) := fun q a b c => by
  rcases c with c | c
  ·exact a c
  ·have := hX q c
   unfold EnvW.Free at this
   omega
 have hlow := h.sz
 obtain ⟨_, _, _, _, _, _, _, hD, _⟩ := h.lots.lay
 refine ⟨?_, h.flow.below (ht.below (B := E.B) (by omega) (fun q hq => hn q (by omega) (by omega))) (Nat.le_refl _), h.cx.turned ht (hn _ (by omega) (by omega)), h.cp.turned ht (hn _ (by omega) (by omega)), h.co.turned ht (hn _ (by omega) (by omega)), h.cm.turned ht (hn _ (by omega) (by omega)), h.cd.turned ht (hn _ (by omega) (by omega)), hm, Nat.le_trans h.sz ht.size⟩
 exact h.lots.turned ht (fun q a b => hn q (by omega) (by omega))
theorem WalkS.turned {E : EnvW} (hE : E.Ok) {w : List (List Int)} {part : List Int} {W W' : World} (h : WalkS E w part W) {X : Nat → Prop} (ht : Turned X W W') (hX : ∀ q, X q → E.Free q) : WalkS E w part W' :=
 h.moved hE (ht.mono (fun q _ e => .inr e)) hX (h.mp.turned ht (fun e => by have := hX _ e; unfold EnvW.Free at this; have := hE.o3; have := hE.x3; omega))
theorem WalkS.ext {E : EnvW} (hE : E.Ok) {w : List (List Int)} {part : List Int} {W W' : World} (h : WalkS E w part W) (hb : Below W.heap.size W W') : WalkS E w part W' :=
 h.turned hE (X := fun _ => False) (Turned.of_below hb) (fun _ e => e.elim)
theorem WalkS.same {E : EnvW} {w w' : List (List Int)} {part part' : List Int} {W : World} (h : WalkS E w part W) (hm : ∀ s, s < E.n → posS E.f w part s = posS E.f w' part' s) : WalkS E w' part' W :=
 ⟨h.lots, h.flow, h.cx, h.cp, h.co, h.cm, h.cd, h.mp.eq hm, h.sz⟩
/-- who calls walk: T: what a call of its function may write; At: it is to be written now; Dn: it is written -/
structure Client (E : EnvW) where
 T : Type
 At : T → World → Prop
 Dn : Nat → T → List (List Int) → List Int → World → Prop
 X : T → Nat → Prop
 X0 : Nat → Prop
 res : Nat → T → List (List Int) → List Int → Bool
 keep : ∀ t W W', At t W → Turned (fun q => q = E.bm) W W' → At t W'
 keepD : ∀ m t w p W W', Dn m t w p W → Turned (fun q => q = E.bm) W W' → Dn m t w p W'
/-- all free places below i -/
def eachB (g : Nat → Nat → Bool) (part : List Int) : Nat → Bool
 | 0 => true
 | i + 1 => eachB g part i && (hasB part (i : Int) || g (freeK part i) i)
/-- the places taken: nil, or a list in blocks that stay -/
def Taken (E : EnvW) (X : Nat → Prop) (W : World) (v : Value) (part : List Int) : Prop :=
 v = .slice none 0 0 ∧ part = [] ∨ ∃ b o c, v = .slice (some ⟨b, o, none⟩) part.length c ∧ IsIntsX (fun q => E.C ≤ q ∧ q < W.heap.size ∧ ¬ X q) W v part
theorem Taken.ints {E : EnvW} {X : Nat → Prop} {W : World} {v : Value} {part : List Int} (h : Taken E X W v part) : IsInts W.heap.size W v part := by
 rcases h with ⟨rfl, rfl⟩ | ⟨b, o, c, rfl, h⟩
 ·exact ⟨0, 0, 0, ⟨none, rfl, Nat.le_refl _, by omega, .inr rfl⟩, by simp, by simp, fun j hj => by simp at hj⟩
 ·exact h.ints
theorem Taken.form {E : EnvW} {X : Nat → Prop} {W : World} {v : Value} {part : List Int} (h : Taken E X W v part) : v = .slice none 0 0 ∧ part = [] ∨ ∃ b o c, v = .slice (some ⟨b, o, none⟩) part.length c := by
 rcases h with h | ⟨b, o, c, h, _⟩
 ·exact .inl h
 ·exact .inr ⟨b, o, c, h⟩
theorem Taken.slice {E : EnvW} {X : Nat → Prop} {W : World} {v : Value} {part : List Int} (h : Taken E X W v part) : ∃ a c, v = .slice a part.length c := by
 rcases h with ⟨rfl, rfl⟩ | ⟨b, o, c, h, _⟩
 ·exact ⟨none, 0, rfl⟩
 ·exact ⟨_, _, h⟩
theorem Taken.turned {E : EnvW} (hE : E.Ok) {X Y : Nat → Prop} {W W' : World} {v : Value} {part : List Int} (h : Taken E X W v part) (ht : Turned Y W W') (hY : ∀ q, Y q → q < E.C ∨ X q ∨ W.heap.size ≤ q) : Taken E X W' v part := by
 rcases h with h | ⟨b, o, c, h, h2⟩
 ·exact .inl h
 ·refine .inr ⟨b, o, c, h, (h2.turned ht (fun q hq hy => ?_)).mono (fun q hq => ⟨hq.1, Nat.lt_of_lt_of_le hq.2.1 ht.size, hq.2.2⟩)⟩
  rcases hY q hy with h | h | h
  ·omega
  ·exact hq.2.2 h
  ·omega
/-- decide's contract, with fuel m, at one state -/
def DecideAt (E : EnvW) (K : Client E) (m : Nat) (w : List (List Int)) (part : List Int) : Prop := ∀ (W : World) (v : Value) (t : K.T), WalkS E w part W → Taken E (K.X t) W v part → K.At t W → (∀ q, K.X t q → E.Free q ∧ q < W.heap.size) →
 Calls Tryz.prog 52 #[.int .i64 (w.length : Int), v, .pointer (some ⟨E.cx, 0, none⟩), .pointer (some ⟨E.cp, 0, none⟩), .pointer (some ⟨E.co, 0, none⟩), .pointer (some ⟨E.cm, 0, none⟩), .pointer (some ⟨E.cd, 0, none⟩)] W fun e W' =>
  e = .returned (.bool (K.res m t (settleS E.f w part).1 (settleS E.f w part).2)) ∧ WalkS E w part W' ∧ Turned (fun q => q = E.bm ∨ K.X t q) W W' ∧ K.Dn m t (settleS E.f w part).1 (settleS E.f w part).2 W'
/-- the blocks of one call of decide -/
structure EachF (E : EnvW) (w : List (List Int)) (part : List Int) (v : Value) (cy ct ci cf cl : Nat) (W : World) : Prop where
 cy : ∃ a c pv, CellsN W cy #[.slice a (lotAt E.f.lots w.length).ins.length c, .bool false, pv] ∧ IsInts E.B W (.slice a (lotAt E.f.lots w.length).ins.length c) (lotAt E.f.lots w.length).ins
 ct : Cell1 W ct v
 ci : Cell1 W ci (.int .i64 (part.length : Int))
 cf : Cell1 W cf (.int .i64 (beforeI E.f w.length))
 cl : Cell1 W cl (.int .i64 (w.length : Int))
theorem EachF.turned {E : EnvW} {w : List (List Int)} {part : List Int} {v : Value} {cy ct ci cf cl : Nat} {W W' : World} (h : EachF E w part v cy ct ci cf cl W) {X : Nat → Prop} (ht : Turned X W W') (hB : E.B ≤ W.heap.size) (hX : ∀ q, X q → E.B ≤ q ∧ q ≠ cy ∧ q ≠ ct ∧ q ≠ ci ∧ q ≠ cf ∧ q ≠ cl) : EachF E w part v cy ct ci cf cl W' := by
 obtain ⟨a, c, pv, h1, h2⟩ := h.cy
 refine ⟨⟨a, c, pv, h1.turned ht (fun e => (hX _ e).2.1 rfl), h2.below (ht.below hB (fun q hq e => by have := (hX q e).1; omega)) (Nat.le_refl _)⟩, h.ct.turned ht (fun e => (hX _ e).2.2.1 rfl), h.ci.turned ht (fun e => (hX _ e).2.2.2.1 rfl), h.cf.turned ht (fun e => (hX _ e).2.2.2.2.1 rfl), h.cl.turned ht (fun e => (hX _ e).2.2.2.2.2 rfl)⟩
/-- one of two, by a test -/
def SZ (b : Bool) (S Z : World → Prop) (W : World) : Prop := (b = true → S W) ∧ (b = false → Z W)
/-- each's contract: s: its frame's blocks lie below; the client's ready is rf, with two captured values -/
def EachC (E : EnvW) (K : Client E) (m : Nat) (w : List (List Int)) (part : List Int) (s cy ct ci cf cl : Nat) (t : K.T) : Prop := ∀ (W1 : World) (rf : Nat) (r1 r2 : Value) (S R : Nat → World → Prop) (tk : Nat → K.T) (Z : World → Prop), (rf = 32 ∨ rf = 35) →
 WalkS E w part W1 → s ≤ W1.heap.size → (∃ W0, W0.heap.size = s ∧ Turned (K.X t) W0 W1 ∧ ∃ v, Taken E (K.X t) W0 v part ∧ EachF E w part v cy ct ci cf cl W0) → S 0 W1 → (∀ i W W', S i W → Turned (fun q => q = E.bm) W W' → S i W') → (∀ i W W', R i W → Turned (fun q => q = E.bm) W W' → R i W') → (∀ W W', Z W → Turned (fun q => q = E.bm) W W' → Z W') →
 (∀ i, i < freeK part (lotAt E.f.lots w.length).ins.length → ∀ W2, S i W2 → WalkS E w part W2 → s ≤ W2.heap.size → Calls Tryz.prog rf #[.int .i64 (i : Int), r1, r2] W2 fun e W3 => e = .returned (.bool true) ∧ R i W3 ∧ Turned K.X0 W2 W3) →
 (∀ i W, R i W → K.At (tk i) W) → (∀ i q, K.X (tk i) q → K.X0 q ∨ s ≤ q ∧ q < W1.heap.size) → (∀ j i W W', i < (lotAt E.f.lots w.length).ins.length → hasB part (i : Int) = false → freeK part i = j → R j W → Turned (fun q => q = E.bm ∨ K.X (tk j) q) W W' → K.Dn m (tk j) (settleS E.f w (part ++ [(i : Int)])).1 (settleS E.f w (part ++ [(i : Int)])).2 W' → SZ (K.res m (tk j) (settleS E.f w (part ++ [(i : Int)])).1 (settleS E.f w (part ++ [(i : Int)])).2) (S (j + 1)) Z W') →
 Calls Tryz.prog 53 #[.func (.func rf) #[] #[r1, r2], .pointer (some ⟨cy, 0, none⟩), .pointer (some ⟨ct, 0, none⟩), .pointer (some ⟨E.cm, 0, none⟩), .pointer (some ⟨ci, 0, none⟩), .pointer (some ⟨cf, 0, none⟩), .pointer (some ⟨E.cd, 0, none⟩), .pointer (some ⟨cl, 0, none⟩)] W1 fun e W' =>
  e = .returned (.bool (eachB (fun j i => K.res m (tk j) (settleS E.f w (part ++ [(i : Int)])).1 (settleS E.f w (part ++ [(i : Int)])).2) part (lotAt E.f.lots w.length).ins.length)) ∧ WalkS E w part W' ∧ Turned (fun q => q = E.bm ∨ K.X0 q ∨ s ≤ q) W1 W' ∧
   SZ (eachB (fun j i => K.res m (tk j) (settleS E.f w (part ++ [(i : Int)])).1 (settleS E.f w (part ++ [(i : Int)])).2) part (lotAt E.f.lots w.length).ins.length) (S (freeK part (lotAt E.f.lots w.length).ins.length)) Z W'
theorem each_no {g : Nat → Nat → Bool} {part : List Int} {i : Nat} (h : eachB g part i = false) : ∀ {m : Nat}, i ≤ m → eachB g part m = false := by
 intro m hm
 induction hm with
 | refl => exact h
 | step _ ih => simp only [eachB, ih, Bool.false_and]
theorem free_lt {part : List Int} {p N : Nat} (hp : p < N) (h : hasB part (p : Int) = false) : freeK part p < freeK part N := by
 have h1 : freeK part (p + 1) = freeK part p + 1 := by simp [freeK, h]
 have h2 : ∀ {m}, p + 1 ≤ m → freeK part (p + 1) ≤ freeK part m := by
  intro m hm
  induction hm with
  | refl => exact Nat.le_refl _
  | @step m _ ih =>
   have e : freeK part (m + 1) = if hasB part (m : Int) then freeK part m else freeK part m + 1 := rfl
   by_cases hh : hasB part (m : Int) = true
   ·rw [e, if_pos hh]; exact ih
   ·rw [e, if_neg hh]; omega
 have := h2 (show p + 1 ≤ N by omega)
 omega
/-- a list cloned, a number behind it, then a call -/
structure ClA (W2 : World) (part : List Int) (i : Int) (fc fb fa fd : Bool) (xc xb xa : Value) (Post : World → Prop) (w : World) : Prop where
 bel : fd = false → Below W2.heap.size W2 w
 c : fc = true → fa = false → fd = false → ∃ B, W2.heap.size ≤ B ∧ B ≤ w.heap.size ∧ OwnInts B w xc part
 b : fb = true → fa = false → fd = false → ∃ g, xb = .slice (some ⟨g, 0, none⟩) 1 1 ∧ CellsN w g #[.int .i64 i]
 a : fa = true → fd = false → ∃ B, W2.heap.size ≤ B ∧ OwnInts B w xa (part ++ [i])
 post : fd = true → Post w
theorem ClA.start {W2 : World} {part : List Int} {i : Int} {xc xb xa : Value} {Post : World → Prop} (n : Nat) : ClA W2 part i false false false false xc xb xa Post (W2.drewN n) where
 bel := fun _ => below_drewN (Below.refl _ _) n
 c := fun e => by cases e
 b := fun e => by cases e
 a := fun e => by cases e
 post := fun e => by cases e
section
variable {W2 : World} {part : List Int} {i : Int} {fc fb fa fd : Bool} {xc xb xa : Value} {Post : World → Prop} {w : World} (h : ClA W2 part i fc fb fa fd xc xb xa Post w)
include h
theorem ClA.sc (hfa : fa = false) (hfd : fd = false) {w' : World} {v : Value} (ho : OwnInts w.heap.size w' v part) (hb : Below w.heap.size w w') : ClA W2 part i true fb fa fd v xb xa Post w' := by
 subst hfa hfd
 have h1 := h.bel rfl
 exact {
  bel := (fun _ => h1.trans (hb.mono h1.size)), c := (fun _ _ _ => ⟨_, h1.size, hb.size, ho⟩), b := (fun e e1 e2 => by obtain ⟨g, q1, q2⟩ := h.b e e1 e2; exact ⟨g, q1, q2.turned (Turned.of_below (X := fun _ => False) hb) (fun e => e)⟩), a := (fun e => by cases e), post := (fun e => by cases e) }
theorem ClA.sb (hfa : fa = false) (hfd : fd = false) {x : Value} (he : x = .slice (some ⟨w.heap.size, 0, none⟩) 1 1) : ClA W2 part i fc true fa fd xc x xa Post (w.alloc (.cells #[.int .i64 i] 3)) := by
 subst hfa hfd
 have h1 := h.bel rfl
 exact {
  bel := (fun _ => h1.alloc h1.size _), c := (fun e e1 e2 => by obtain ⟨B, q1, q2, q3⟩ := h.c e e1 e2; exact ⟨B, q1, by simp; omega, q3.alloc _⟩), b := (fun _ _ _ => ⟨_, he, CellsN.new w _ _⟩), a := (fun e => by cases e), post := (fun e => by cases e) }
theorem ClA.sa (hfc : fc = true) (hfa : fa = false) (hfd : fd = false) {B : Nat} (hB : W2.heap.size ≤ B) (hB2 : ∀ k, xc.ownBlock = some k → W2.heap.size ≤ k) {w' : World} {v : Value} (ho : OwnInts B w' v (part ++ [i])) (hg : w.grownBy w' xc.ownBlock) : ClA W2 part i fc fb true fd xc xb v Post w' := by
 subst hfa hfd
 have h1 := h.bel rfl
 exact {
  bel := (fun _ => h1.grown hg h1.size hB2), c := (fun _ e => by cases e), b := (fun _ e => by cases e), a := (fun _ _ => ⟨B, hB, ho⟩), post := (fun e => by cases e) }
omit h in
theorem ClA.sd (hfd : fd = false) {w' : World} (hp : Post w') : ClA W2 part i fc fb fa true xc xb xa Post w' where
 bel := fun e => by cases e
 c := fun _ _ e => by cases e
 b := fun _ _ e => by cases e
 a := fun _ e => by cases e
 post := fun _ => hp
end
end Go.Proofs.YteiaeaciaglmgaaGreat
namespace Go.Proofs.YteiaeaciaglmgaaGreat
open Go.RowKit
theorem free_le (part : List Int) : ∀ i, freeK part i ≤ i
 | 0 => Nat.le_refl _
 | i + 1 => by
  have := free_le part i
  have e : freeK part (i + 1) = if hasB part (i : Int) then freeK part i else freeK part i + 1 := rfl
  by_cases hh : hasB part (i : Int) = true
  ·rw [e, if_pos hh]; omega
  ·rw [e, if_neg hh]; omega
set_option maxHeartbeats 8000000 in
set_option maxRecDepth 100000 in
/-- each -/
theorem each_any (E : EnvW) (hE : E.Ok) (K : Client E) (m : Nat) (w : List (List Int)) (part : List Int) (hc : checkE E.f = 0) (hso : StOk E.f w part) (hk : w.length < E.f.lots.length) (hp : part.length < (lotAt E.f.lots w.length).ins.length)
  (hdec : ∀ i : Nat, i < (lotAt E.f.lots w.length).ins.length → hasB part (i : Int) = false → DecideAt E K m w (part ++ [(i : Int)])) (t : K.T) (s cy ct ci cf cl : Nat) (hs : E.C ≤ s) (hcs : (E.C ≤ cy ∧ cy < s) ∧ (E.C ≤ ct ∧ ct < s) ∧ (E.C ≤ ci ∧ ci < s) ∧ (E.C ≤ cf ∧ cf < s) ∧ (E.C ≤ cl ∧ cl < s))
  (hXt : ∀ q, K.X t q → E.Free q ∧ q < s ∧ q ≠ cy ∧ q ≠ ct ∧ q ≠ ci ∧ q ≠ cf ∧ q ≠ cl) (hX0 : ∀ q, K.X0 q → K.X t q) : EachC E K m w part s cy ct ci cf cl t := by
 intro W1 rf r1 r2 S R tk Z hrf hWS hsW hW0 hS hkS hkR hkZ hrd hRA hX hnx
 obtain ⟨W0, hW0s, hW0t, v, htk, hfr⟩ := hW0
 obtain ⟨a, c, pv, hy1, hy2⟩ := hfr.cy
 have h1 := hE.o1
 have h2 := hE.o2
 have h3 := hE.o3
 have x1 := hE.x1
 have x3 := hE.x3
 have HNM : Hid (E.B ≤ E.cp ∧ E.cp < E.C0 ∧ E.C0 ≤ E.D0 ∧ E.D0 ≤ E.bm ∧ E.bm < E.C ∧ E.C ≤ s ∧ s ≤ W1.heap.size) := Lib.hid ⟨h1, h2, h3, x3.1, x3.2, hs, hsW⟩
 have HCS := Lib.hid hcs
 have hsl := htk.slice
 have HALL : Hid (∀ W', Turned (fun q => q = E.bm ∨ K.X0 q ∨ s ≤ q) W1 W' → Taken E (K.X t) W' v part ∧ CellsN W' cy #[.slice a (lotAt E.f.lots w.length).ins.length c, .bool false, pv] ∧ IsInts E.B W' (.slice a (lotAt E.f.lots w.length).ins.length c) (lotAt E.f.lots w.length).ins ∧ EachF E w part v cy ct ci cf cl W') := Lib.hid (fun W' ht => by
  have h : Turned (fun q => q = E.bm ∨ K.X t q) W0 W' := (hW0t.mono (fun q _ e => .inr e)).transE ht (fun q hq e => by
   rcases e with e | e | e
   ·exact .inl e
   ·exact .inr (hX0 q e)
   ·omega)
  have hn : ∀ q, (q = E.bm ∨ K.X t q) → E.B ≤ q ∧ q ≠ cy ∧ q ≠ ct ∧ q ≠ ci ∧ q ≠ cf ∧ q ≠ cl := fun q e => by
   rcases e with e | e
   ·omega
   ·obtain ⟨g1, g2⟩ := hXt q e
    unfold EnvW.Free at g1
    omega
  refine ⟨htk.turned hE h (fun q e => ?_), hy1.turned h (fun e => (hn _ e).2.1 rfl), hy2.below (h.below (by omega) (fun q hq e => by have := (hn q e).1; omega)) (Nat.le_refl _), hfr.turned h (by omega) hn⟩
  rcases e with e | e
  ·exact .inl (by omega)
  ·exact .inr (.inl e))
 have HRDY := Lib.hid hrd
 have HKS := Lib.hid hkS
 have HKR := Lib.hid hkR
 have HKZ := Lib.hid hkZ
 have HSP := Lib.hid (fun (i : Nat) (hh : hasB part (i : Int) = false) => posS_more hc hso hk hp (x := (i : Int)) (by omega) hh)
 have HX0F : Hid (∀ q, K.X0 q → E.Free q ∧ q < s) := Lib.hid (fun q e => ⟨(hXt q (hX0 q e)).1, (hXt q (hX0 q e)).2.1⟩)
 -- what decide does for one place, by then
 obtain ⟨G, hG⟩ : ∃ G : Nat → Nat → Bool, (fun (j i : Nat) => K.res m (tk j) (settleS E.f w (part ++ [(i : Int)])).1 (settleS E.f w (part ++ [(i : Int)])).2) = G := ⟨_, rfl⟩
 have HDEC : Hid (∀ (i j : Nat) (w2 : World) (v2 : Value) (B : Nat), i < (lotAt E.f.lots w.length).ins.length → hasB part (i : Int) = false → freeK part i = j → s ≤ w2.heap.size → W1.heap.size ≤ B → WalkS E w (part ++ [(i : Int)]) w2 → R j w2 → OwnInts B w2 v2 (part ++ [(i : Int)]) →
   Calls Tryz.prog 52 #[.int .i64 (w.length : Int), v2, .pointer (some ⟨E.cx, 0, none⟩), .pointer (some ⟨E.cp, 0, none⟩), .pointer (some ⟨E.co, 0, none⟩), .pointer (some ⟨E.cm, 0, none⟩), .pointer (some ⟨E.cd, 0, none⟩)] w2 fun e W' =>
    e = .returned (.bool (G j i)) ∧ WalkS E w (part ++ [(i : Int)]) W' ∧ Turned (fun q => q = E.bm ∨ K.X0 q ∨ s ≤ q) w2 W' ∧ SZ (G j i) (S (j + 1)) Z W') := Lib.hid (fun i j w2 v2 B hi hh hfj hs2 hB hw2 hr2 ho => by
  have hx2 : ∀ q, K.X (tk j) q → E.Free q ∧ q < w2.heap.size := fun q e => by
   rcases hX j q e with e | e
   ·exact ⟨(hXt q (hX0 q e)).1, by have := (hXt q (hX0 q e)).2.1; omega⟩
   ·refine ⟨.inr (by omega), ?_⟩
    obtain ⟨a2, n2, c2, e2⟩ := ho.form'
    subst e2
    obtain ⟨b, o, e3, e4, _⟩ := ho.at (k := part.length) (by simp)
    have := (ho.ltX b (by rw [e3]; rfl))
    omega
  refine (hdec i hi hh w2 v2 (tk j) hw2 ?_ (hRA j w2 hr2) hx2).mono ?_
  ·obtain ⟨a2, n2, c2, e2⟩ := ho.form'
   subst e2
   obtain ⟨b, o, e3, e4, _⟩ := ho.at (k := part.length) (by simp)
   subst e3 e4
   refine .inr ⟨b, o, c2, rfl, (ho.isX hB).mono (fun q hq => ⟨by omega, hq.2, fun e => ?_⟩)⟩
   rcases hX j q e with e | e
   ·have := (hXt q (hX0 q e)).2.1; omega
   ·omega
  ·rintro e W' ⟨he, g1, g2, g3⟩
   subst hG
   refine ⟨he, g1, g2.mono (fun q _ e => ?_), hnx j i w2 W' hi hh hfj hr2 g2 g3⟩
   rcases e with e | e
   ·exact .inl e
   ·rcases hX j q e with e | e
    ·exact .inr (.inl e)
    ·exact .inr (.inr e.1))
 rw [hG]
 clear hG hdec
 have h64 : beforeI E.f w.length + (lotAt E.f.lots w.length).ins.length ≤ 50000 := (before_bd hc (k := w.length + 1) (by omega)).2
 have h065 := (before_bd hc (k := w.length) (by omega)).1
 obtain ⟨bi, oi, c', ⟨a', hai, hcc1, hcc2, hai'⟩, hi1, hi64, hci⟩ := hy2
 obtain ⟨rfl, rfl⟩ : a = a' ∧ c = c' := by simpa using hai
 obtain rfl : a = some ⟨bi, oi, none⟩ := by rcases hai' with h | h; exact h; omega
 have HCL : Hid (∀ W' part', Turned (fun q => q = E.bm ∨ K.X0 q ∨ s ≤ q) W1 W' → WalkS E w part' W' →
   W'.cell? ⟨E.cm, 0, none⟩ = some (.func (.func 51) #[] #[.pointer (some ⟨E.co, 0, none⟩)]) ∧
   W'.cell? ⟨E.cd, 0, none⟩ = some (.func (.func 52) #[] #[.pointer (some ⟨E.cx, 0, none⟩), .pointer (some ⟨E.cp, 0, none⟩), .pointer (some ⟨E.co, 0, none⟩), .pointer (some ⟨E.cm, 0, none⟩), .pointer (some ⟨E.cd, 0, none⟩)]) ∧
   W'.cell? ⟨cy, 0, none⟩ = some (.slice (some ⟨bi, oi, none⟩) (lotAt E.f.lots w.length).ins.length c) ∧ W'.cell? ⟨bi, oi + part.length, none⟩ = some (.int .i64 (nth (lotAt E.f.lots w.length).ins part.length)) ∧
   W'.cell? ⟨ct, 0, none⟩ = some v ∧ W'.cell? ⟨ci, 0, none⟩ = some (.int .i64 (part.length : Int)) ∧ W'.cell? ⟨cf, 0, none⟩ = some (.int .i64 (beforeI E.f w.length)) ∧ W'.cell? ⟨cl, 0, none⟩ = some (.int .i64 (w.length : Int))) := Lib.hid (fun W' part' ht hw => by
  obtain ⟨g1, g2, g3, g4⟩ := HALL.out W' ht
  have k0 := g2.cell 0
  simp at k0
  obtain ⟨b2, o2, c2, ⟨a2, e2, _, _, e3⟩, _, _, g5⟩ := g3
  obtain ⟨rfl, rfl⟩ : bi = b2 ∧ oi = o2 := by
   simp only [Value.slice.injEq] at e2
   rcases e3 with e3 | e3
   ·rw [e3] at e2; simpa using e2.1
   ·omega
  exact ⟨hw.cm.cell, hw.cd.cell, k0, (g5 part.length hp).2, g4.ct.cell, g4.ci.cell, g4.cf.cell, g4.cl.cell⟩)
 obtain ⟨N, hN⟩ : ∃ N, (lotAt E.f.lots w.length).ins.length = N := ⟨_, rfl⟩
 obtain ⟨X, hXX⟩ : ∃ X, nth (lotAt E.f.lots w.length).ins part.length = X := ⟨_, rfl⟩
 obtain ⟨FB, hFB⟩ : ∃ X, beforeI E.f w.length = X := ⟨_, rfl⟩
 rw [hXX, hFB] at HSP
 rw [hN, hXX, hFB] at HCL
 rw [hN] at HDEC HRDY hp ⊢
 rw [hFB] at h64 h065
 rw [hN] at h64
 have HP := Lib.hid hp
 have HFL := Lib.hid (fun (p : Nat) (h : p < N) (hh : hasB part (p : Int) = false) => free_lt h hh)
 have HNO := Lib.hid (fun (p : Nat) (h : p < N) (hh : eachB G part (p + 1) = false) => each_no hh (show p + 1 ≤ N by omega))
 clear hai hai' hi1 hi64 hci hcc1 hcc2 hN hXX hFB hrd hkS hkR hkZ hp hfr hy1 hW0t hW0s htk hRA hX hnx hXt hX0 hso h1 h2 h3 x1 x3 hs hcs hsW
 have HS1 := Lib.hid hS
 have HW1 := Lib.hid hWS
 clear hS hWS hk
 obtain ⟨k1, k2, k3, k4, k5, k6, k7, k8⟩ := HCL.out W1 part (Turned.refl _ _) HW1.out
 rcases hrf with rfl | rfl
 ·go_enter Tryz.func53, Tryz.ntmps53
  go_upto_region 3 with fail
  go_loopw [10, 16] (fun j' i' wr => ∃ p : Nat, p ≤ N ∧ i' = .int .i64 (p : Nat) ∧ j' = .int .i64 (freeK part p : Nat) ∧ Turned (fun q => q = E.bm ∨ K.X0 q ∨ s ≤ q) W1 wr ∧ WalkS E w part wr ∧ S (freeK part p) wr ∧ eachB G part p = true) (fun _ i' _ => N - (intOf i').toNat)
  case atStart => exact ⟨0, by omega, rfl, rfl, Turned.refl _ _, HW1.out, HS1.out, rfl⟩
  case round =>
   obtain ⟨p, hpN, rfl, rfl, ht, hw, hS, he⟩ := hrel
   have HT := Lib.hid ht
   have HW := Lib.hid hw
   have HS := Lib.hid hS
   have HEB := Lib.hid he
   have HTK := Lib.hid (HALL.out wr ht).1.ints
   obtain ⟨k1, k2, k3, k4, k5, k6, k7, k8⟩ := HCL.out wr part ht hw
   clear ht hw hS he
   by_cases hpl : p < N
   ·obtain ⟨HB, hHB⟩ : ∃ x, hasB part (p : Int) = x := ⟨_, rfl⟩
    have HHB := Lib.hid hHB
    clear hHB
    cases HB
    ·have HJ : Hid (freeK part (p + 1) = freeK part p + 1) := Lib.hid (by simp [freeK, HHB.out])
     have HE1 : Hid (eachB G part (p + 1) = G (freeK part p) p) := Lib.hid (by simp [eachB, HHB.out, HEB.out])
     have HFJ := Lib.hid (HFL.out p hpl HHB.out)
     have HSM := Lib.hid (HSP.out p HHB.out)
     obtain ⟨j, hj⟩ : ∃ j, freeK part p = j := ⟨_, rfl⟩
     have HJB : Hid (j ≤ p) := Lib.hid (by rw [← hj]; exact free_le part p)
     rw [hj] at HJ HE1 HFJ HS ⊢
     obtain ⟨RB, hRB⟩ : ∃ x, G j p = x := ⟨_, rfl⟩
     have HRB := Lib.hid hRB
     have HNM' := Lib.hid (HNM.out.2.2.2.2.2.2)
     have HSZ : Hid (s ≤ wr.heap.size ∧ W1.heap.size ≤ wr.heap.size) := Lib.hid (by have := HT.out.size; have := HNM'.out; omega)
     rw [hRB] at HE1
     have HJE := Lib.hid hj
     clear hj hRB
     have hwj : IntKind.i64.wrap (FB + (p : Int)) = FB + (p : Int) := IntWalk.i64_in _ (by omega)
     go_upto_region 6 with (go_at_call 54; refine (scontains_any _ _ _ part _ HTK.out).mono ?_; rintro e w9 ⟨rfl, hw9⟩; rw [hw9]; clear hw9; rw [HHB.out])
     clear k1 k2 k3 k4 k5 k6 k7 k8
     go_upto_region 8 with (go_at_call 32; refine (HRDY.out j HFJ.out wr HS.out HW.out HSZ.out.1).mono ?_; rintro e W3 ⟨rfl, hr3, ht3⟩; have HR3 := Lib.hid hr3; have HT3 := Lib.hid ht3; clear hr3 ht3)
     have HT13 : Hid (Turned (fun q => q = E.bm ∨ K.X0 q ∨ s ≤ q) W1 W3) := Lib.hid (HT.out.trans (HT3.out.mono (fun q _ e => .inr (.inl e))))
     have HW3 : Hid (WalkS E w part W3) := Lib.hid (HW.out.turned hE HT3.out (fun q e => (HX0F.out q e).1))
     obtain ⟨k1, k2, k3, k4, k5, k6, k7, k8⟩ := HCL.out W3 part HT13.out HW3.out
     have hp := HP.out
     go_still_tail 9, (by kernel_rfl)
     change wpList _ _ _ _ _ W3.drew
     go_upto_region 9 with (go_at_call 51; refine (move_step W3.drew E.co E.bm E.n _ _ X (FB + (p : Int)) HW3.out.co HW3.out.mp (fun e => hE.ne.2.1 e.symm) HSM.out).mono ?_; rintro e W4 ⟨⟨vv, rfl⟩, hm4, ht4⟩; have HM4 := Lib.hid hm4; have HT4 := Lib.hid ht4; clear hm4 ht4)
     clear k1 k2 k3 k4 k5 k6 k7 k8
     have HT34 : Hid (Turned (fun q => q = E.bm) W3 W4) := Lib.hid ((show Turned (fun q => q = E.bm) W3 W3.drew from ⟨rfl, rfl, rfl, Nat.le_refl _, fun _ _ _ => rfl⟩).trans HT4.out)
     have HW4 : Hid (WalkS E w (part ++ [(p : Int)]) W4) := Lib.hid (HW3.out.moved hE (X := fun _ => False) (HT34.out.mono (fun q _ e => .inl e)) (fun q e => e.elim) HM4.out)
     have HR4 := Lib.hid (HKR.out j _ _ HR3.out HT34.out)
     have HT14 : Hid (Turned (fun q => q = E.bm ∨ K.X0 q ∨ s ≤ q) W1 W4) := Lib.hid (HT13.out.trans (HT34.out.mono (fun q _ e => .inl e)))
     have HSZ4 : Hid (s ≤ W4.heap.size ∧ W1.heap.size ≤ W4.heap.size) := Lib.hid (by have := HT14.out.size; have := HNM'.out; omega)
     have HCL4 : Hid (∀ w2, Below W4.heap.size W4 w2 → w2.cell? ⟨E.cd, 0, none⟩ = some (.func (.func 52) #[] #[.pointer (some ⟨E.cx, 0, none⟩), .pointer (some ⟨E.cp, 0, none⟩), .pointer (some ⟨E.co, 0, none⟩), .pointer (some ⟨E.cm, 0, none⟩), .pointer (some ⟨E.cd, 0, none⟩)]) ∧ w2.cell? ⟨cl, 0, none⟩ = some (.int .i64 (w.length : Int)) ∧ w2.cell? ⟨ct, 0, none⟩ = some v ∧ IsInts w2.heap.size w2 v part) := Lib.hid (fun w2 hb => by
      have ht2 := HT14.out.trans (Turned.of_below hb)
      obtain ⟨g1, g2, g3, g4, g5, g6, g7, g8⟩ := HCL.out w2 _ ht2 (HW4.out.ext hE hb)
      exact ⟨g2, g8, g5, (HALL.out w2 ht2).1.ints⟩)
     have HFO := Lib.hid (HALL.out W4 HT14.out).1.form
     have HDC : Hid (∀ w2 v2 B, Below W4.heap.size W4 w2 → W4.heap.size ≤ B → OwnInts B w2 v2 (part ++ [(p : Int)]) → Calls Tryz.prog 52 #[.int .i64 (w.length : Int), v2, .pointer (some ⟨E.cx, 0, none⟩), .pointer (some ⟨E.cp, 0, none⟩), .pointer (some ⟨E.co, 0, none⟩), .pointer (some ⟨E.cm, 0, none⟩), .pointer (some ⟨E.cd, 0, none⟩)] w2 fun e W' =>
       e = .returned (.bool RB) ∧ WalkS E w (part ++ [(p : Int)]) W' ∧ Turned (fun q => q = E.bm ∨ K.X0 q ∨ s ≤ q) W1 W' ∧ SZ RB (S (j + 1)) Z W') := Lib.hid (fun w2 v2 B hb hB ho => by
      refine (HDEC.out p j w2 v2 B hpl HHB.out HJE.out (by have := HSZ4.out; have := hb.size; omega) (by have := HSZ4.out; omega) (HW4.out.ext hE hb) (HKR.out j _ _ HR4.out (Turned.of_below hb)) ho).mono ?_
      rintro e W' ⟨g1, g2, g3, g4⟩
      rw [HRB.out] at g1 g4
      exact ⟨g1, g2, (HT14.out.trans (Turned.of_below hb)).trans g3, g4⟩)
     have HPN : Hid (part.length < 100000) := Lib.hid (by have := HP.out; omega)
     obtain ⟨V, hV⟩ : ∃ V : List (Option Value), V = [some (.func (.func 52) #[] #[.pointer (some ⟨E.cx, 0, none⟩), .pointer (some ⟨E.cp, 0, none⟩), .pointer (some ⟨E.co, 0, none⟩), .pointer (some ⟨E.cm, 0, none⟩), .pointer (some ⟨E.cd, 0, none⟩)]), some (.int .i64 (w.length : Int)), some (v), none, some (.int .i64 (p : Nat)), none, none, some (.bool RB), some (.bool RB)] := ⟨_, rfl⟩
     have HVV := Lib.hid hV
     clear hV
     refine wp_region_V [some 36, some 37, some 38, some 39, some 40, some 41, some 42, some 43, some 12] (fun L w' xs => ValsAt V L xs ∧ (ClA W4 part (p : Int) (L 3) (L 5) (L 6) (L 7) (xs 3) (xs 5) (xs 6) (fun W' => WalkS E w (part ++ [(p : Int)]) W' ∧ Turned (fun q => q = E.bm ∨ K.X0 q ∨ s ≤ q) W1 W' ∧ SZ RB (S (j + 1)) Z W') w' ∧ ((L 7 = true → L 0 = true ∧ L 1 = true ∧ L 6 = true) ∧ (L 6 = true → L 3 = true ∧ L 5 = true) ∧ (L 3 = true → L 2 = true)))) (by kernel_rfl) (by kernel_rfl) (by rfl) (by rfl) (by rfl) ?_ ?_ ?_
     focus
      exact fun xs => ⟨ValsAt.none _ _, (by exact ClA.start 1), ⟨(fun e => by cases e), (fun e => by cases e), (fun e => by cases e)⟩⟩
     focus
      refine ⟨?_, ?_, ?_, ?_, ?_, ?_, ?_, ?_, ?_, trivial⟩
      all_goals
       intro L a' w' xs hi hd hf hJ K hK
       obtain ⟨hv, hA, h9⟩ := hJ
       have HF := Lib.hid hf
       have HVA := Lib.hid hv
       have HLI := Lib.hid hi
       clear hf hv hi
      focus
       clear hd
       obtain ⟨ρ, hρ⟩ : ∃ ρ, a'.eval = ρ := ⟨_, rfl⟩
       have hcst := cstE hρ
       have l6 : ρ (.tmp 6) = .pointer (some ⟨E.cd, 0, none⟩) := (congrFun hρ (.tmp 6)).symm.trans (HF.out.lo 6 rfl)
       have e7 : L 7 = false := by
        cases e : L 7 with
        | false => rfl
        | true => have := (h9.1 e).1; rw [HLI.out] at this; cases this
       obtain ⟨m0, m1, m2, m3⟩ := HCL4.out _ (hA.bel e7)
       rw [if_pos (by simp [Region.wanted])]
       unfold Oper.wp
       rw [hρ]
       clear hρ
       go_simp
       exact hK.out _ _ ⟨HVA.out.set (i := 0) (by rw [HVV.out]; rfl), (by simp only [une xs 3 0 rfl, une xs 5 0 rfl, une xs 6 0 rfl]; exact hA), (by exact ⟨fun e => ⟨rfl, (h9.1 e).2⟩, h9.2⟩)⟩
      focus
       clear hd
       obtain ⟨ρ, hρ⟩ : ∃ ρ, a'.eval = ρ := ⟨_, rfl⟩
       have hcst := cstE hρ
       have l7 : ρ (.tmp 7) = .pointer (some ⟨cl, 0, none⟩) := (congrFun hρ (.tmp 7)).symm.trans (HF.out.lo 7 rfl)
       have e7 : L 7 = false := by
        cases e : L 7 with
        | false => rfl
        | true => have := (h9.1 e).2.1; rw [HLI.out] at this; cases this
       obtain ⟨m0, m1, m2, m3⟩ := HCL4.out _ (hA.bel e7)
       rw [if_pos (by simp [Region.wanted])]
       unfold Oper.wp
       rw [hρ]
       clear hρ
       go_simp
       exact hK.out _ _ ⟨HVA.out.set (i := 1) (by rw [HVV.out]; rfl), (by simp only [une xs 3 1 rfl, une xs 5 1 rfl, une xs 6 1 rfl]; exact hA), (by exact ⟨fun e => ⟨(h9.1 e).1, rfl, (h9.1 e).2.2⟩, h9.2⟩)⟩
      focus
       clear hd
       obtain ⟨ρ, hρ⟩ : ∃ ρ, a'.eval = ρ := ⟨_, rfl⟩
       have hcst := cstE hρ
       have l2 : ρ (.tmp 2) = .pointer (some ⟨ct, 0, none⟩) := (congrFun hρ (.tmp 2)).symm.trans (HF.out.lo 2 rfl)
       have e3 : L 3 = false := by
        cases e : L 3 with
        | false => rfl
        | true => have := h9.2.2 e; rw [HLI.out] at this; cases this
       have e6 : L 6 = false := by
        cases e : L 6 with
        | false => rfl
        | true => have := (h9.2.1 e).1; rw [e3] at this; cases this
       have e7 : L 7 = false := by
        cases e : L 7 with
        | false => rfl
        | true => have := (h9.1 e).2.2; rw [e6] at this; cases this
       obtain ⟨m0, m1, m2, m3⟩ := HCL4.out _ (hA.bel e7)
       rw [if_pos (by simp [Region.wanted])]
       unfold Oper.wp
       rw [hρ]
       clear hρ
       go_simp
       exact hK.out _ _ ⟨HVA.out.set (i := 2) (by rw [HVV.out]; rfl), (by simp only [une xs 3 2 rfl, une xs 5 2 rfl, une xs 6 2 rfl]; exact hA), (by exact ⟨h9.1, h9.2.1, fun _ => rfl⟩)⟩
      focus
       obtain ⟨d2, _⟩ := hd
       obtain ⟨ρ, hρ⟩ : ∃ ρ, a'.eval = ρ := ⟨_, rfl⟩
       have hcst := cstE hρ
       have hfun : ∀ k, ρ (.func k) = .func (.func k) #[] #[] := fun k => (congrFun hρ (.func k)).symm
       have v2 : ρ (.tmp 38) = v := (congrFun hρ (.tmp 38)).symm.trans ((HF.out.ev 2 rfl d2).trans (HVA.out 2 _ (by rw [HVV.out]; rfl) d2))
       have e6 : L 6 = false := by
        cases e : L 6 with
        | false => rfl
        | true => have := (h9.2.1 e).1; rw [HLI.out] at this; cases this
       have e7 : L 7 = false := by
        cases e : L 7 with
        | false => rfl
        | true => have := (h9.1 e).2.2; rw [e6] at this; cases this
       obtain ⟨m0, m1, m2, m3⟩ := HCL4.out _ (hA.bel e7)
       rw [if_pos (by simp [Region.wanted])]
       unfold Oper.wp
       rw [hρ]
       clear hρ
       go_simp
       go_at_call 45
       refine (clone_own _ _ _ part m3 HFO.out (Nat.le_refl _)).mono ?_
       rintro en w5' ⟨v5, rfl, ho5, hb5⟩
       exact hK.out _ _ ⟨HVA.out.free (i := 3) (by rw [HVV.out]; rfl) _, (by simp only [une xs 5 3 rfl, une xs 6 3 rfl, updV_self]; exact hA.sc e6 e7 ho5 hb5), (by exact ⟨h9.1, fun e => ⟨rfl, (h9.2.1 e).2⟩, fun _ => d2⟩)⟩
      focus
       clear hd
       obtain ⟨ρ, hρ⟩ : ∃ ρ, a'.eval = ρ := ⟨_, rfl⟩
       have hcst := cstE hρ
       have l11 : ρ (.tmp 11) = .int .i64 (p : Nat) := (congrFun hρ (.tmp 11)).symm.trans (HF.out.lo 11 rfl)
       rw [if_pos (by simp [Region.wanted])]
       unfold Oper.wp
       rw [hρ]
       clear hρ
       go_simp
       exact hK.out _ _ ⟨HVA.out.set (i := 4) (by rw [HVV.out]; rfl), (by simp only [une xs 3 4 rfl, une xs 5 4 rfl, une xs 6 4 rfl]; exact hA), (by exact h9)⟩
      focus
       obtain ⟨d4, _⟩ := hd
       obtain ⟨ρ, hρ⟩ : ∃ ρ, a'.eval = ρ := ⟨_, rfl⟩
       have hcst := cstE hρ
       have v4 : ρ (.tmp 40) = .int .i64 (p : Nat) := (congrFun hρ (.tmp 40)).symm.trans ((HF.out.ev 4 rfl d4).trans (HVA.out 4 _ (by rw [HVV.out]; rfl) d4))
       have e6 : L 6 = false := by
        cases e : L 6 with
        | false => rfl
        | true => have := (h9.2.1 e).2; rw [HLI.out] at this; cases this
       have e7 : L 7 = false := by
        cases e : L 7 with
        | false => rfl
        | true => have := (h9.1 e).2.2; rw [e6] at this; cases this
       rw [if_pos (by simp [Region.wanted])]
       unfold Oper.wp
       rw [hρ]
       clear hρ
       go_simp
       exact hK.out _ _ ⟨HVA.out.free (i := 5) (by rw [HVV.out]; rfl) _, (by simp only [une xs 3 5 rfl, une xs 6 5 rfl, updV_self]; exact hA.sb e6 e7 rfl), (by exact ⟨h9.1, fun e => ⟨(h9.2.1 e).1, rfl⟩, h9.2.2⟩)⟩
      focus
       obtain ⟨d3, d5, _, _⟩ := hd
       have v3 : a'.eval (.tmp 39) = xs 3 := HF.out.ev 3 rfl d3
       have v5 : a'.eval (.tmp 41) = xs 5 := HF.out.ev 5 rfl d5
       rw [if_pos (by simp [Region.wanted])]
       have e7 : L 7 = false := by
        cases e : L 7 with
        | false => rfl
        | true => have := (h9.1 e).2.2; rw [HLI.out] at this; cases this
       obtain ⟨g, y5, y6⟩ := hA.b d5 HLI.out e7
       obtain ⟨B7, y1, y2, y3⟩ := hA.c d3 HLI.out e7
       rw [y5] at v5
       have hsrc : Src w' 1 (.slice (some ⟨g, 0, none⟩) 1 1) [(p : Int)].length ([(p : Int)].map (Value.int .i64)) := src_one (y6.cell 0) rfl
       obtain ⟨v', w5, z1, z2, z3, z4⟩ := run_append_ints (ty := 25) y3 hsrc (by intro y hy; simp at hy; subst hy; unfold I64; omega) (by have := HPN.out; simp; omega) y2
       refine wp_of_append w' rfl v3 v5 z1 ?_
       exact hK.out _ _ ⟨HVA.out.free (i := 6) (by rw [HVV.out]; rfl) _, (by simp only [une xs 3 6 rfl, une xs 5 6 rfl, updV_self]; exact hA.sa d3 HLI.out e7 y1 (fun k e => Nat.le_trans y1 (y3.ltX k e).1) z2 z3), (by exact ⟨fun e => ⟨(h9.1 e).1, (h9.1 e).2.1, rfl⟩, fun _ => ⟨d3, d5⟩, h9.2.2⟩)⟩
      focus
       obtain ⟨d0, d1, d6, _, _⟩ := hd
       obtain ⟨ρ, hρ⟩ : ∃ ρ, a'.eval = ρ := ⟨_, rfl⟩
       have hcst := cstE hρ
       have v0 : ρ (.tmp 36) = .func (.func 52) #[] #[.pointer (some ⟨E.cx, 0, none⟩), .pointer (some ⟨E.cp, 0, none⟩), .pointer (some ⟨E.co, 0, none⟩), .pointer (some ⟨E.cm, 0, none⟩), .pointer (some ⟨E.cd, 0, none⟩)] := (congrFun hρ (.tmp 36)).symm.trans ((HF.out.ev 0 rfl d0).trans (HVA.out 0 _ (by rw [HVV.out]; rfl) d0))
       have v1 : ρ (.tmp 37) = .int .i64 (w.length : Int) := (congrFun hρ (.tmp 37)).symm.trans ((HF.out.ev 1 rfl d1).trans (HVA.out 1 _ (by rw [HVV.out]; rfl) d1))
       have v6 : ρ (.tmp 42) = xs 6 := (congrFun hρ (.tmp 42)).symm.trans (HF.out.ev 6 rfl d6)
       rw [if_pos (by simp [Region.wanted])]
       unfold Oper.wp
       rw [hρ]
       clear hρ
       obtain ⟨B7, y1, y2⟩ := hA.a d6 HLI.out
       go_simp
       go_at_call 52
       refine (HDC.out _ _ _ (hA.bel HLI.out) y1 y2).mono ?_
       rintro en w5' ⟨rfl, hq5⟩
       exact hK.out _ _ ⟨HVA.out.set (i := 7) (by rw [HVV.out]; rfl), (by simp only [une xs 3 7 rfl, une xs 5 7 rfl, une xs 6 7 rfl]; exact ClA.sd HLI.out hq5), (by exact ⟨fun _ => ⟨d0, d1, d6⟩, h9.2⟩)⟩
      focus
       obtain ⟨d7, _, d0, d1, d2, d3, d4, d5, d6, _, _⟩ := hd
       obtain ⟨ρ, hρ⟩ : ∃ ρ, a'.eval = ρ := ⟨_, rfl⟩
       have hcst := cstE hρ
       have v7 : ρ (.tmp 43) = .bool RB := (congrFun hρ (.tmp 43)).symm.trans ((HF.out.ev 7 rfl d7).trans (HVA.out 7 _ (by rw [HVV.out]; rfl) d7))
       rw [if_pos (by simp [Region.wanted])]
       unfold Oper.wp
       rw [hρ]
       clear hρ
       go_simp
       exact hK.out _ _ ⟨HVA.out.set (i := 8) (by rw [HVV.out]; rfl), (by simp only [une xs 3 8 rfl, une xs 5 8 rfl, une xs 6 8 rfl]; exact hA), (by exact h9)⟩
     focus
      intro L w' xs hL hJ
      obtain ⟨hv, hA, h9⟩ := hJ
      have e0 : xs 0 = .func (.func 52) #[] #[.pointer (some ⟨E.cx, 0, none⟩), .pointer (some ⟨E.cp, 0, none⟩), .pointer (some ⟨E.co, 0, none⟩), .pointer (some ⟨E.cm, 0, none⟩), .pointer (some ⟨E.cd, 0, none⟩)] := hv 0 _ (by rw [HVV.out]; rfl) (hL 0 (by decide))
      have e1 : xs 1 = .int .i64 (w.length : Int) := hv 1 _ (by rw [HVV.out]; rfl) (hL 1 (by decide))
      have e2 : xs 2 = v := hv 2 _ (by rw [HVV.out]; rfl) (hL 2 (by decide))
      have e4 : xs 4 = .int .i64 (p : Nat) := hv 4 _ (by rw [HVV.out]; rfl) (hL 4 (by decide))
      have e7 : xs 7 = .bool RB := hv 7 _ (by rw [HVV.out]; rfl) (hL 7 (by decide))
      have e8 : xs 8 = .bool RB := hv 8 _ (by rw [HVV.out]; rfl) (hL 8 (by decide))
      simp only [putGo, Act.put, List.setIfInBounds_toArray, List.set_cons_zero, List.set_cons_succ, e0, e1, e2, e4, e7, e8]
      clear hv e0 e1 e2 e4 e7 e8
     obtain ⟨hw5, ht5, hS5⟩ := hA.post (hL 7 (by decide))
     have HW5 := Lib.hid hw5
     have HT5 := Lib.hid ht5
     have HS5 := Lib.hid hS5
     clear hA h9 hw5 ht5 hS5 hL
     obtain ⟨W5, hW5⟩ : ∃ x, w' = x := ⟨_, rfl⟩
     rw [hW5] at HW5 HT5 HS5 ⊢
     clear hW5
     obtain ⟨k1, k2, k3, k4, k5, k6, k7, k8⟩ := HCL.out W5 _ HT5.out HW5.out
     go_wp2
     have hp := HP.out
     go_still_tail 9, (by kernel_rfl)
     change wpList _ _ _ _ _ W5.drew
     cases RB
     ·go_wp2_with (go_at_call 51; refine (move_step W5.drew E.co E.bm E.n _ _ (FB + (p : Int)) X HW5.out.co HW5.out.mp (fun e => hE.ne.2.1 e.symm) HSM.out.back).mono ?_; rintro e W6 ⟨⟨vv, rfl⟩, hm6, ht6⟩; have HM6 := Lib.hid hm6; have HT6 := Lib.hid ht6; clear hm6 ht6)
      go_ret
      have ht56 : Turned (fun q => q = E.bm) W5 W6 := (show Turned (fun q => q = E.bm) W5 W5.drew from ⟨rfl, rfl, rfl, Nat.le_refl _, fun _ _ _ => rfl⟩).trans HT6.out
      rw [HNO.out p hpl HE1.out]
      exact ⟨rfl, HW5.out.moved hE (X := fun _ => False) (ht56.mono (fun q _ e => .inl e)) (fun q e => e.elim) HM6.out, HT5.out.trans (ht56.mono (fun q _ e => .inl e)), ⟨fun e => (by cases e), fun _ => HKZ.out _ _ (HS5.out.2 rfl) ht56⟩⟩
     ·go_wp2_with (go_at_call 51; refine (move_step W5.drew E.co E.bm E.n _ _ (FB + (p : Int)) X HW5.out.co HW5.out.mp (fun e => hE.ne.2.1 e.symm) HSM.out.back).mono ?_; rintro e W6 ⟨⟨vv, rfl⟩, hm6, ht6⟩; have HM6 := Lib.hid hm6; have HT6 := Lib.hid ht6; clear hm6 ht6)
      go_roundw
      case rel =>
       have ht56 : Turned (fun q => q = E.bm) W5 W6 := (show Turned (fun q => q = E.bm) W5 W5.drew from ⟨rfl, rfl, rfl, Nat.le_refl _, fun _ _ _ => rfl⟩).trans HT6.out
       refine ⟨p + 1, by omega, by go_num, by rw [HJ.out]; exact congrArg (Value.int .i64) ((IntWalk.wrap64_in _ (by have := HJB.out; omega)).trans (by omega)), HT5.out.trans (ht56.mono (fun q _ e => .inl e)), HW5.out.moved hE (X := fun _ => False) (ht56.mono (fun q _ e => .inl e)) (fun q e => e.elim) HM6.out, ?_, HE1.out⟩
       rw [HJ.out]
       exact HKS.out _ _ _ (HS5.out.1 rfl) ht56
      case measure => simp [intOf]; omega
    ·have HJ : Hid (freeK part (p + 1) = freeK part p) := Lib.hid (by simp [freeK, HHB.out])
     have HE1 : Hid (eachB G part (p + 1) = true) := Lib.hid (by simp [eachB, HHB.out, HEB.out])
     go_wp2_with (go_at_call 54; refine (scontains_any _ _ _ part _ HTK.out).mono ?_; rintro e w9 ⟨rfl, hw9⟩; rw [hw9]; clear hw9; rw [HHB.out])
     go_roundw
     case rel => exact ⟨p + 1, by omega, by go_num, by rw [HJ.out], HT.out, HW.out, by rw [HJ.out]; exact HS.out, HE1.out⟩
     case measure => simp [intOf]; omega
   ·obtain rfl : p = N := by omega
    go_wp2
    go_ret
    exact ⟨by rw [HEB.out]; rfl, HW.out, HT.out, ⟨fun _ => HS.out, fun e => by rw [HEB.out] at e; cases e⟩⟩
 ·go_enter Tryz.func53, Tryz.ntmps53
  go_upto_region 3 with fail
  go_loopw [10, 16] (fun j' i' wr => ∃ p : Nat, p ≤ N ∧ i' = .int .i64 (p : Nat) ∧ j' = .int .i64 (freeK part p : Nat) ∧ Turned (fun q => q = E.bm ∨ K.X0 q ∨ s ≤ q) W1 wr ∧ WalkS E w part wr ∧ S (freeK part p) wr ∧ eachB G part p = true) (fun _ i' _ => N - (intOf i').toNat)
  case atStart => exact ⟨0, by omega, rfl, rfl, Turned.refl _ _, HW1.out, HS1.out, rfl⟩
  case round =>
   obtain ⟨p, hpN, rfl, rfl, ht, hw, hS, he⟩ := hrel
   have HT := Lib.hid ht
   have HW := Lib.hid hw
   have HS := Lib.hid hS
   have HEB := Lib.hid he
   have HTK := Lib.hid (HALL.out wr ht).1.ints
   obtain ⟨k1, k2, k3, k4, k5, k6, k7, k8⟩ := HCL.out wr part ht hw
   clear ht hw hS he
   by_cases hpl : p < N
   ·obtain ⟨HB, hHB⟩ : ∃ x, hasB part (p : Int) = x := ⟨_, rfl⟩
    have HHB := Lib.hid hHB
    clear hHB
    cases HB
    ·have HJ : Hid (freeK part (p + 1) = freeK part p + 1) := Lib.hid (by simp [freeK, HHB.out])
     have HE1 : Hid (eachB G part (p + 1) = G (freeK part p) p) := Lib.hid (by simp [eachB, HHB.out, HEB.out])
     have HFJ := Lib.hid (HFL.out p hpl HHB.out)
     have HSM := Lib.hid (HSP.out p HHB.out)
     obtain ⟨j, hj⟩ : ∃ j, freeK part p = j := ⟨_, rfl⟩
     have HJB : Hid (j ≤ p) := Lib.hid (by rw [← hj]; exact free_le part p)
     rw [hj] at HJ HE1 HFJ HS ⊢
     obtain ⟨RB, hRB⟩ : ∃ x, G j p = x := ⟨_, rfl⟩
     have HRB := Lib.hid hRB
     have HNM' := Lib.hid (HNM.out.2.2.2.2.2.2)
     have HSZ : Hid (s ≤ wr.heap.size ∧ W1.heap.size ≤ wr.heap.size) := Lib.hid (by have := HT.out.size; have := HNM'.out; omega)
     rw [hRB] at HE1
     have HJE := Lib.hid hj
     clear hj hRB
     have hwj : IntKind.i64.wrap (FB + (p : Int)) = FB + (p : Int) := IntWalk.i64_in _ (by omega)
     go_upto_region 6 with (go_at_call 54; refine (scontains_any _ _ _ part _ HTK.out).mono ?_; rintro e w9 ⟨rfl, hw9⟩; rw [hw9]; clear hw9; rw [HHB.out])
     clear k1 k2 k3 k4 k5 k6 k7 k8
     go_upto_region 8 with (go_at_call 35; refine (HRDY.out j HFJ.out wr HS.out HW.out HSZ.out.1).mono ?_; rintro e W3 ⟨rfl, hr3, ht3⟩; have HR3 := Lib.hid hr3; have HT3 := Lib.hid ht3; clear hr3 ht3)
     have HT13 : Hid (Turned (fun q => q = E.bm ∨ K.X0 q ∨ s ≤ q) W1 W3) := Lib.hid (HT.out.trans (HT3.out.mono (fun q _ e => .inr (.inl e))))
     have HW3 : Hid (WalkS E w part W3) := Lib.hid (HW.out.turned hE HT3.out (fun q e => (HX0F.out q e).1))
     obtain ⟨k1, k2, k3, k4, k5, k6, k7, k8⟩ := HCL.out W3 part HT13.out HW3.out
     have hp := HP.out
     go_still_tail 9, (by kernel_rfl)
     change wpList _ _ _ _ _ W3.drew
     go_upto_region 9 with (go_at_call 51; refine (move_step W3.drew E.co E.bm E.n _ _ X (FB + (p : Int)) HW3.out.co HW3.out.mp (fun e => hE.ne.2.1 e.symm) HSM.out).mono ?_; rintro e W4 ⟨⟨vv, rfl⟩, hm4, ht4⟩; have HM4 := Lib.hid hm4; have HT4 := Lib.hid ht4; clear hm4 ht4)
     clear k1 k2 k3 k4 k5 k6 k7 k8
     have HT34 : Hid (Turned (fun q => q = E.bm) W3 W4) := Lib.hid ((show Turned (fun q => q = E.bm) W3 W3.drew from ⟨rfl, rfl, rfl, Nat.le_refl _, fun _ _ _ => rfl⟩).trans HT4.out)
     have HW4 : Hid (WalkS E w (part ++ [(p : Int)]) W4) := Lib.hid (HW3.out.moved hE (X := fun _ => False) (HT34.out.mono (fun q _ e => .inl e)) (fun q e => e.elim) HM4.out)
     have HR4 := Lib.hid (HKR.out j _ _ HR3.out HT34.out)
     have HT14 : Hid (Turned (fun q => q = E.bm ∨ K.X0 q ∨ s ≤ q) W1 W4) := Lib.hid (HT13.out.trans (HT34.out.mono (fun q _ e => .inl e)))
     have HSZ4 : Hid (s ≤ W4.heap.size ∧ W1.heap.size ≤ W4.heap.size) := Lib.hid (by have := HT14.out.size; have := HNM'.out; omega)
     have HCL4 : Hid (∀ w2, Below W4.heap.size W4 w2 → w2.cell? ⟨E.cd, 0, none⟩ = some (.func (.func 52) #[] #[.pointer (some ⟨E.cx, 0, none⟩), .pointer (some ⟨E.cp, 0, none⟩), .pointer (some ⟨E.co, 0, none⟩), .pointer (some ⟨E.cm, 0, none⟩), .pointer (some ⟨E.cd, 0, none⟩)]) ∧ w2.cell? ⟨cl, 0, none⟩ = some (.int .i64 (w.length : Int)) ∧ w2.cell? ⟨ct, 0, none⟩ = some v ∧ IsInts w2.heap.size w2 v part) := Lib.hid (fun w2 hb => by
      have ht2 := HT14.out.trans (Turned.of_below hb)
      obtain ⟨g1, g2, g3, g4, g5, g6, g7, g8⟩ := HCL.out w2 _ ht2 (HW4.out.ext hE hb)
      exact ⟨g2, g8, g5, (HALL.out w2 ht2).1.ints⟩)
     have HFO := Lib.hid (HALL.out W4 HT14.out).1.form
     have HDC : Hid (∀ w2 v2 B, Below W4.heap.size W4 w2 → W4.heap.size ≤ B → OwnInts B w2 v2 (part ++ [(p : Int)]) → Calls Tryz.prog 52 #[.int .i64 (w.length : Int), v2, .pointer (some ⟨E.cx, 0, none⟩), .pointer (some ⟨E.cp, 0, none⟩), .pointer (some ⟨E.co, 0, none⟩), .pointer (some ⟨E.cm, 0, none⟩), .pointer (some ⟨E.cd, 0, none⟩)] w2 fun e W' =>
       e = .returned (.bool RB) ∧ WalkS E w (part ++ [(p : Int)]) W' ∧ Turned (fun q => q = E.bm ∨ K.X0 q ∨ s ≤ q) W1 W' ∧ SZ RB (S (j + 1)) Z W') := Lib.hid (fun w2 v2 B hb hB ho => by
      refine (HDEC.out p j w2 v2 B hpl HHB.out HJE.out (by have := HSZ4.out; have := hb.size; omega) (by have := HSZ4.out; omega) (HW4.out.ext hE hb) (HKR.out j _ _ HR4.out (Turned.of_below hb)) ho).mono ?_
      rintro e W' ⟨g1, g2, g3, g4⟩
      rw [HRB.out] at g1 g4
      exact ⟨g1, g2, (HT14.out.trans (Turned.of_below hb)).trans g3, g4⟩)
     have HPN : Hid (part.length < 100000) := Lib.hid (by have := HP.out; omega)
     obtain ⟨V, hV⟩ : ∃ V : List (Option Value), V = [some (.func (.func 52) #[] #[.pointer (some ⟨E.cx, 0, none⟩), .pointer (some ⟨E.cp, 0, none⟩), .pointer (some ⟨E.co, 0, none⟩), .pointer (some ⟨E.cm, 0, none⟩), .pointer (some ⟨E.cd, 0, none⟩)]), some (.int .i64 (w.length : Int)), some (v), none, some (.int .i64 (p : Nat)), none, none, some (.bool RB), some (.bool RB)] := ⟨_, rfl⟩
     have HVV := Lib.hid hV
     clear hV
     refine wp_region_V [some 36, some 37, some 38, some 39, some 40, some 41, some 42, some 43, some 12] (fun L w' xs => ValsAt V L xs ∧ (ClA W4 part (p : Int) (L 3) (L 5) (L 6) (L 7) (xs 3) (xs 5) (xs 6) (fun W' => WalkS E w (part ++ [(p : Int)]) W' ∧ Turned (fun q => q = E.bm ∨ K.X0 q ∨ s ≤ q) W1 W' ∧ SZ RB (S (j + 1)) Z W') w' ∧ ((L 7 = true → L 0 = true ∧ L 1 = true ∧ L 6 = true) ∧ (L 6 = true → L 3 = true ∧ L 5 = true) ∧ (L 3 = true → L 2 = true)))) (by kernel_rfl) (by kernel_rfl) (by rfl) (by rfl) (by rfl) ?_ ?_ ?_
     focus
      exact fun xs => ⟨ValsAt.none _ _, (by exact ClA.start 1), ⟨(fun e => by cases e), (fun e => by cases e), (fun e => by cases e)⟩⟩
     focus
      refine ⟨?_, ?_, ?_, ?_, ?_, ?_, ?_, ?_, ?_, trivial⟩
      all_goals
       intro L a' w' xs hi hd hf hJ K hK
       obtain ⟨hv, hA, h9⟩ := hJ
       have HF := Lib.hid hf
       have HVA := Lib.hid hv
       have HLI := Lib.hid hi
       clear hf hv hi
      focus
       clear hd
       obtain ⟨ρ, hρ⟩ : ∃ ρ, a'.eval = ρ := ⟨_, rfl⟩
       have hcst := cstE hρ
       have l6 : ρ (.tmp 6) = .pointer (some ⟨E.cd, 0, none⟩) := (congrFun hρ (.tmp 6)).symm.trans (HF.out.lo 6 rfl)
       have e7 : L 7 = false := by
        cases e : L 7 with
        | false => rfl
        | true => have := (h9.1 e).1; rw [HLI.out] at this; cases this
       obtain ⟨m0, m1, m2, m3⟩ := HCL4.out _ (hA.bel e7)
       rw [if_pos (by simp [Region.wanted])]
       unfold Oper.wp
       rw [hρ]
       clear hρ
       go_simp
       exact hK.out _ _ ⟨HVA.out.set (i := 0) (by rw [HVV.out]; rfl), (by simp only [une xs 3 0 rfl, une xs 5 0 rfl, une xs 6 0 rfl]; exact hA), (by exact ⟨fun e => ⟨rfl, (h9.1 e).2⟩, h9.2⟩)⟩
      focus
       clear hd
       obtain ⟨ρ, hρ⟩ : ∃ ρ, a'.eval = ρ := ⟨_, rfl⟩
       have hcst := cstE hρ
       have l7 : ρ (.tmp 7) = .pointer (some ⟨cl, 0, none⟩) := (congrFun hρ (.tmp 7)).symm.trans (HF.out.lo 7 rfl)
       have e7 : L 7 = false := by
        cases e : L 7 with
        | false => rfl
        | true => have := (h9.1 e).2.1; rw [HLI.out] at this; cases this
       obtain ⟨m0, m1, m2, m3⟩ := HCL4.out _ (hA.bel e7)
       rw [if_pos (by simp [Region.wanted])]
       unfold Oper.wp
       rw [hρ]
       clear hρ
       go_simp
       exact hK.out _ _ ⟨HVA.out.set (i := 1) (by rw [HVV.out]; rfl), (by simp only [une xs 3 1 rfl, une xs 5 1 rfl, une xs 6 1 rfl]; exact hA), (by exact ⟨fun e => ⟨(h9.1 e).1, rfl, (h9.1 e).2.2⟩, h9.2⟩)⟩
      focus
       clear hd
       obtain ⟨ρ, hρ⟩ : ∃ ρ, a'.eval = ρ := ⟨_, rfl⟩
       have hcst := cstE hρ
       have l2 : ρ (.tmp 2) = .pointer (some ⟨ct, 0, none⟩) := (congrFun hρ (.tmp 2)).symm.trans (HF.out.lo 2 rfl)
       have e3 : L 3 = false := by
        cases e : L 3 with
        | false => rfl
        | true => have := h9.2.2 e; rw [HLI.out] at this; cases this
       have e6 : L 6 = false := by
        cases e : L 6 with
        | false => rfl
        | true => have := (h9.2.1 e).1; rw [e3] at this; cases this
       have e7 : L 7 = false := by
        cases e : L 7 with
        | false => rfl
        | true => have := (h9.1 e).2.2; rw [e6] at this; cases this
       obtain ⟨m0, m1, m2, m3⟩ := HCL4.out _ (hA.bel e7)
       rw [if_pos (by simp [Region.wanted])]
       unfold Oper.wp
       rw [hρ]
       clear hρ
       go_simp
       exact hK.out _ _ ⟨HVA.out.set (i := 2) (by rw [HVV.out]; rfl), (by simp only [une xs 3 2 rfl, une xs 5 2 rfl, une xs 6 2 rfl]; exact hA), (by exact ⟨h9.1, h9.2.1, fun _ => rfl⟩)⟩
      focus
       obtain ⟨d2, _⟩ := hd
       obtain ⟨ρ, hρ⟩ : ∃ ρ, a'.eval = ρ := ⟨_, rfl⟩
       have hcst := cstE hρ
       have hfun : ∀ k, ρ (.func k) = .func (.func k) #[] #[] := fun k => (congrFun hρ (.func k)).symm
       have v2 : ρ (.tmp 38) = v := (congrFun hρ (.tmp 38)).symm.trans ((HF.out.ev 2 rfl d2).trans (HVA.out 2 _ (by rw [HVV.out]; rfl) d2))
       have e6 : L 6 = false := by
        cases e : L 6 with
        | false => rfl
        | true => have := (h9.2.1 e).1; rw [HLI.out] at this; cases this
       have e7 : L 7 = false := by
        cases e : L 7 with
        | false => rfl
        | true => have := (h9.1 e).2.2; rw [e6] at this; cases this
       obtain ⟨m0, m1, m2, m3⟩ := HCL4.out _ (hA.bel e7)
       rw [if_pos (by simp [Region.wanted])]
       unfold Oper.wp
       rw [hρ]
       clear hρ
       go_simp
       go_at_call 45
       refine (clone_own _ _ _ part m3 HFO.out (Nat.le_refl _)).mono ?_
       rintro en w5' ⟨v5, rfl, ho5, hb5⟩
       exact hK.out _ _ ⟨HVA.out.free (i := 3) (by rw [HVV.out]; rfl) _, (by simp only [une xs 5 3 rfl, une xs 6 3 rfl, updV_self]; exact hA.sc e6 e7 ho5 hb5), (by exact ⟨h9.1, fun e => ⟨rfl, (h9.2.1 e).2⟩, fun _ => d2⟩)⟩
      focus
       clear hd
       obtain ⟨ρ, hρ⟩ : ∃ ρ, a'.eval = ρ := ⟨_, rfl⟩
       have hcst := cstE hρ
       have l11 : ρ (.tmp 11) = .int .i64 (p : Nat) := (congrFun hρ (.tmp 11)).symm.trans (HF.out.lo 11 rfl)
       rw [if_pos (by simp [Region.wanted])]
       unfold Oper.wp
       rw [hρ]
       clear hρ
       go_simp
       exact hK.out _ _ ⟨HVA.out.set (i := 4) (by rw [HVV.out]; rfl), (by simp only [une xs 3 4 rfl, une xs 5 4 rfl, une xs 6 4 rfl]; exact hA), (by exact h9)⟩
      focus
       obtain ⟨d4, _⟩ := hd
       obtain ⟨ρ, hρ⟩ : ∃ ρ, a'.eval = ρ := ⟨_, rfl⟩
       have hcst := cstE hρ
       have v4 : ρ (.tmp 40) = .int .i64 (p : Nat) := (congrFun hρ (.tmp 40)).symm.trans ((HF.out.ev 4 rfl d4).trans (HVA.out 4 _ (by rw [HVV.out]; rfl) d4))
       have e6 : L 6 = false := by
        cases e : L 6 with
        | false => rfl
        | true => have := (h9.2.1 e).2; rw [HLI.out] at this; cases this
       have e7 : L 7 = false := by
        cases e : L 7 with
        | false => rfl
        | true => have := (h9.1 e).2.2; rw [e6] at this; cases this
       rw [if_pos (by simp [Region.wanted])]
       unfold Oper.wp
       rw [hρ]
       clear hρ
       go_simp
       exact hK.out _ _ ⟨HVA.out.free (i := 5) (by rw [HVV.out]; rfl) _, (by simp only [une xs 3 5 rfl, une xs 6 5 rfl, updV_self]; exact hA.sb e6 e7 rfl), (by exact ⟨h9.1, fun e => ⟨(h9.2.1 e).1, rfl⟩, h9.2.2⟩)⟩
      focus
       obtain ⟨d3, d5, _, _⟩ := hd
       have v3 : a'.eval (.tmp 39) = xs 3 := HF.out.ev 3 rfl d3
       have v5 : a'.eval (.tmp 41) = xs 5 := HF.out.ev 5 rfl d5
       rw [if_pos (by simp [Region.wanted])]
       have e7 : L 7 = false := by
        cases e : L 7 with
        | false => rfl
        | true => have := (h9.1 e).2.2; rw [HLI.out] at this; cases this
       obtain ⟨g, y5, y6⟩ := hA.b d5 HLI.out e7
       obtain ⟨B7, y1, y2, y3⟩ := hA.c d3 HLI.out e7
       rw [y5] at v5
       have hsrc : Src w' 1 (.slice (some ⟨g, 0, none⟩) 1 1) [(p : Int)].length ([(p : Int)].map (Value.int .i64)) := src_one (y6.cell 0) rfl
       obtain ⟨v', w5, z1, z2, z3, z4⟩ := run_append_ints (ty := 25) y3 hsrc (by intro y hy; simp at hy; subst hy; unfold I64; omega) (by have := HPN.out; simp; omega) y2
       refine wp_of_append w' rfl v3 v5 z1 ?_
       exact hK.out _ _ ⟨HVA.out.free (i := 6) (by rw [HVV.out]; rfl) _, (by simp only [une xs 3 6 rfl, une xs 5 6 rfl, updV_self]; exact hA.sa d3 HLI.out e7 y1 (fun k e => Nat.le_trans y1 (y3.ltX k e).1) z2 z3), (by exact ⟨fun e => ⟨(h9.1 e).1, (h9.1 e).2.1, rfl⟩, fun _ => ⟨d3, d5⟩, h9.2.2⟩)⟩
      focus
       obtain ⟨d0, d1, d6, _, _⟩ := hd
       obtain ⟨ρ, hρ⟩ : ∃ ρ, a'.eval = ρ := ⟨_, rfl⟩
       have hcst := cstE hρ
       have v0 : ρ (.tmp 36) = .func (.func 52) #[] #[.pointer (some ⟨E.cx, 0, none⟩), .pointer (some ⟨E.cp, 0, none⟩), .pointer (some ⟨E.co, 0, none⟩), .pointer (some ⟨E.cm, 0, none⟩), .pointer (some ⟨E.cd, 0, none⟩)] := (congrFun hρ (.tmp 36)).symm.trans ((HF.out.ev 0 rfl d0).trans (HVA.out 0 _ (by rw [HVV.out]; rfl) d0))
       have v1 : ρ (.tmp 37) = .int .i64 (w.length : Int) := (congrFun hρ (.tmp 37)).symm.trans ((HF.out.ev 1 rfl d1).trans (HVA.out 1 _ (by rw [HVV.out]; rfl) d1))
       have v6 : ρ (.tmp 42) = xs 6 := (congrFun hρ (.tmp 42)).symm.trans (HF.out.ev 6 rfl d6)
       rw [if_pos (by simp [Region.wanted])]
       unfold Oper.wp
       rw [hρ]
       clear hρ
       obtain ⟨B7, y1, y2⟩ := hA.a d6 HLI.out
       go_simp
       go_at_call 52
       refine (HDC.out _ _ _ (hA.bel HLI.out) y1 y2).mono ?_
       rintro en w5' ⟨rfl, hq5⟩
       exact hK.out _ _ ⟨HVA.out.set (i := 7) (by rw [HVV.out]; rfl), (by simp only [une xs 3 7 rfl, une xs 5 7 rfl, une xs 6 7 rfl]; exact ClA.sd HLI.out hq5), (by exact ⟨fun _ => ⟨d0, d1, d6⟩, h9.2⟩)⟩
      focus
       obtain ⟨d7, _, d0, d1, d2, d3, d4, d5, d6, _, _⟩ := hd
       obtain ⟨ρ, hρ⟩ : ∃ ρ, a'.eval = ρ := ⟨_, rfl⟩
       have hcst := cstE hρ
       have v7 : ρ (.tmp 43) = .bool RB := (congrFun hρ (.tmp 43)).symm.trans ((HF.out.ev 7 rfl d7).trans (HVA.out 7 _ (by rw [HVV.out]; rfl) d7))
       rw [if_pos (by simp [Region.wanted])]
       unfold Oper.wp
       rw [hρ]
       clear hρ
       go_simp
       exact hK.out _ _ ⟨HVA.out.set (i := 8) (by rw [HVV.out]; rfl), (by simp only [une xs 3 8 rfl, une xs 5 8 rfl, une xs 6 8 rfl]; exact hA), (by exact h9)⟩
     focus
      intro L w' xs hL hJ
      obtain ⟨hv, hA, h9⟩ := hJ
      have e0 : xs 0 = .func (.func 52) #[] #[.pointer (some ⟨E.cx, 0, none⟩), .pointer (some ⟨E.cp, 0, none⟩), .pointer (some ⟨E.co, 0, none⟩), .pointer (some ⟨E.cm, 0, none⟩), .pointer (some ⟨E.cd, 0, none⟩)] := hv 0 _ (by rw [HVV.out]; rfl) (hL 0 (by decide))
      have e1 : xs 1 = .int .i64 (w.length : Int) := hv 1 _ (by rw [HVV.out]; rfl) (hL 1 (by decide))
      have e2 : xs 2 = v := hv 2 _ (by rw [HVV.out]; rfl) (hL 2 (by decide))
      have e4 : xs 4 = .int .i64 (p : Nat) := hv 4 _ (by rw [HVV.out]; rfl) (hL 4 (by decide))
      have e7 : xs 7 = .bool RB := hv 7 _ (by rw [HVV.out]; rfl) (hL 7 (by decide))
      have e8 : xs 8 = .bool RB := hv 8 _ (by rw [HVV.out]; rfl) (hL 8 (by decide))
      simp only [putGo, Act.put, List.setIfInBounds_toArray, List.set_cons_zero, List.set_cons_succ, e0, e1, e2, e4, e7, e8]
      clear hv e0 e1 e2 e4 e7 e8
     obtain ⟨hw5, ht5, hS5⟩ := hA.post (hL 7 (by decide))
     have HW5 := Lib.hid hw5
     have HT5 := Lib.hid ht5
     have HS5 := Lib.hid hS5
     clear hA h9 hw5 ht5 hS5 hL
     obtain ⟨W5, hW5⟩ : ∃ x, w' = x := ⟨_, rfl⟩
     rw [hW5] at HW5 HT5 HS5 ⊢
     clear hW5
     obtain ⟨k1, k2, k3, k4, k5, k6, k7, k8⟩ := HCL.out W5 _ HT5.out HW5.out
     go_wp2
     have hp := HP.out
     go_still_tail 9, (by kernel_rfl)
     change wpList _ _ _ _ _ W5.drew
     cases RB
     ·go_wp2_with (go_at_call 51; refine (move_step W5.drew E.co E.bm E.n _ _ (FB + (p : Int)) X HW5.out.co HW5.out.mp (fun e => hE.ne.2.1 e.symm) HSM.out.back).mono ?_; rintro e W6 ⟨⟨vv, rfl⟩, hm6, ht6⟩; have HM6 := Lib.hid hm6; have HT6 := Lib.hid ht6; clear hm6 ht6)
      go_ret
      have ht56 : Turned (fun q => q = E.bm) W5 W6 := (show Turned (fun q => q = E.bm) W5 W5.drew from ⟨rfl, rfl, rfl, Nat.le_refl _, fun _ _ _ => rfl⟩).trans HT6.out
      rw [HNO.out p hpl HE1.out]
      exact ⟨rfl, HW5.out.moved hE (X := fun _ => False) (ht56.mono (fun q _ e => .inl e)) (fun q e => e.elim) HM6.out, HT5.out.trans (ht56.mono (fun q _ e => .inl e)), ⟨fun e => (by cases e), fun _ => HKZ.out _ _ (HS5.out.2 rfl) ht56⟩⟩
     ·go_wp2_with (go_at_call 51; refine (move_step W5.drew E.co E.bm E.n _ _ (FB + (p : Int)) X HW5.out.co HW5.out.mp (fun e => hE.ne.2.1 e.symm) HSM.out.back).mono ?_; rintro e W6 ⟨⟨vv, rfl⟩, hm6, ht6⟩; have HM6 := Lib.hid hm6; have HT6 := Lib.hid ht6; clear hm6 ht6)
      go_roundw
      case rel =>
       have ht56 : Turned (fun q => q = E.bm) W5 W6 := (show Turned (fun q => q = E.bm) W5 W5.drew from ⟨rfl, rfl, rfl, Nat.le_refl _, fun _ _ _ => rfl⟩).trans HT6.out
       refine ⟨p + 1, by omega, by go_num, by rw [HJ.out]; exact congrArg (Value.int .i64) ((IntWalk.wrap64_in _ (by have := HJB.out; omega)).trans (by omega)), HT5.out.trans (ht56.mono (fun q _ e => .inl e)), HW5.out.moved hE (X := fun _ => False) (ht56.mono (fun q _ e => .inl e)) (fun q e => e.elim) HM6.out, ?_, HE1.out⟩
       rw [HJ.out]
       exact HKS.out _ _ _ (HS5.out.1 rfl) ht56
      case measure => simp [intOf]; omega
    ·have HJ : Hid (freeK part (p + 1) = freeK part p) := Lib.hid (by simp [freeK, HHB.out])
     have HE1 : Hid (eachB G part (p + 1) = true) := Lib.hid (by simp [eachB, HHB.out, HEB.out])
     go_wp2_with (go_at_call 54; refine (scontains_any _ _ _ part _ HTK.out).mono ?_; rintro e w9 ⟨rfl, hw9⟩; rw [hw9]; clear hw9; rw [HHB.out])
     go_roundw
     case rel => exact ⟨p + 1, by omega, by go_num, by rw [HJ.out], HT.out, HW.out, by rw [HJ.out]; exact HS.out, HE1.out⟩
     case measure => simp [intOf]; omega
   ·obtain rfl : p = N := by omega
    go_wp2
    go_ret
    exact ⟨by rw [HEB.out]; rfl, HW.out, HT.out, ⟨fun _ => HS.out, fun e => by rw [HEB.out] at e; cases e⟩⟩
end Go.Proofs.YteiaeaciaglmgaaGreat
namespace Go.Proofs.YteiaeaciaglmgaaGreat
open Go.RowKit
/-- where a sender's letter is, if a whole row was gone and the first i inputs are back -/
def posB (f : Flow) (w : List (List Int)) (i : Nat) (row : List Int) (s : Nat) : Int := if hasB ((lotAt f.lots w.length).ins.take i) (posW f w w.length s) then posW f w w.length s else posR f w (lotAt f.lots w.length).ins.length row s
theorem posB_zero (f : Flow) (w : List (List Int)) (row : List Int) : posB f w 0 row = posR f w (lotAt f.lots w.length).ins.length row := by
 funext s
 unfold posB
 simp [hasB]
theorem posB_all (f : Flow) (w : List (List Int)) (row : List Int) : posB f w (lotAt f.lots w.length).ins.length row = posS f w [] := by
 funext s
 rw [← posS_zero f w row]
 unfold posB posR
 rw [List.take_length, mv_zero]
 by_cases hh : hasB (lotAt f.lots w.length).ins (posW f w w.length s) = true
 ·rw [if_pos hh]
 ·rw [if_neg hh]
  unfold mvI
  rw [if_neg hh]
theorem posB_step {f : Flow} {w : List (List Int)} (hc : checkE f = 0) (hw : WayOk f w w.length) (hk : w.length < f.lots.length) {i : Nat} (hi : i < (lotAt f.lots w.length).ins.length) {row : List Int} (hlow : ∀ j, j < (lotAt f.lots w.length).ins.length → 0 ≤ nth row j) (hd : ∀ j, j < (lotAt f.lots w.length).ins.length → j ≠ i → nth row j ≠ nth row i) :
  StepM f.senders.toNat (posB f w i row) (posB f w (i + 1) row) (beforeI f w.length + nth row i) (nth (lotAt f.lots w.length).ins i) := by
 obtain ⟨h0, h64, hl2, hb5, hlo⟩ := checkE_ok hc
 have hl : lotsB f w.length = true := lotsB_le hlo (by omega)
 obtain ⟨l1, l2, l3, _⟩ := lotB_parts (lotsB_lot hlo hk)
 obtain ⟨g1, g2, g3⟩ := l3 _ (nth_mem' hi)
 obtain ⟨t, ht, e⟩ := pos_hit h0 (Nat.le_of_lt hk) hl hw g1 g2 g3
 have hlt : ∀ s, s < f.senders.toNat → posW f w w.length s < beforeI f w.length := fun s hs => (pos_lt h0 (Nat.le_of_lt hk) hl hw hs).2.1
 have hin : ∀ s, s < f.senders.toNat → nth (lotAt f.lots w.length).ins i = posW f w w.length s → s = t := fun s hs h => pos_inj h0 (Nat.le_of_lt hk) hl hw hs ht (h.symm.trans e.symm)
 have hbi : hasB (lotAt f.lots w.length).ins (nth (lotAt f.lots w.length).ins i) = true := hasB_mem.2 (nth_mem' hi)
 have hidx : ∀ j, j < (lotAt f.lots w.length).ins.length → (lotAt f.lots w.length).ins.idxOf (nth (lotAt f.lots w.length).ins j) = j := fun j hj => by
  have := (idx_take l2 hj (Nat.le_refl _)).1
  rw [List.take_length] at this
  exact this
 have hnt : ∀ y, hasB ((lotAt f.lots w.length).ins.take (i + 1)) y = (hasB ((lotAt f.lots w.length).ins.take i) y || (nth (lotAt f.lots w.length).ins i == y)) := fun y => by
  rw [Bool.eq_iff_iff, Bool.or_eq_true, hasB_mem, hasB_mem, List.take_succ_eq_append_getElem hi, List.mem_append, List.mem_singleton, ← nth_lt hi, beq_iff_eq]
  constructor
  ·rintro (h | h)
   ·exact .inl h
   ·exact .inr h.symm
  ·rintro (h | h)
   ·exact .inl h
   ·exact .inr h.symm
 have hni : hasB ((lotAt f.lots w.length).ins.take i) (nth (lotAt f.lots w.length).ins i) = false := by
  cases hh : hasB ((lotAt f.lots w.length).ins.take i) (nth (lotAt f.lots w.length).ins i) with
  | false => rfl
  | true =>
   have h1 := take_idx l2 (Nat.le_of_lt hi) hh
   have h3 := hidx i hi
   omega
 -- a letter that is not back
 have hfar : ∀ s, s < f.senders.toNat → ∀ {y}, posR f w (lotAt f.lots w.length).ins.length row s = y → (∃ j, j < (lotAt f.lots w.length).ins.length ∧ posW f w w.length s = nth (lotAt f.lots w.length).ins j ∧ y = beforeI f w.length + nth row j) ∨ (hasB (lotAt f.lots w.length).ins (posW f w w.length s) = false ∧ y = posW f w w.length s) := fun s hs y h => by
  unfold posR at h
  rw [List.take_length] at h
  unfold mvI at h
  by_cases hh : hasB (lotAt f.lots w.length).ins (posW f w w.length s) = true
  ·rw [if_pos hh] at h
   obtain ⟨j, hj, e2⟩ := List.mem_iff_getElem.1 (hasB_mem.1 hh)
   have e3 : posW f w w.length s = nth (lotAt f.lots w.length).ins j := by rw [nth_lt hj]; exact e2.symm
   rw [e3, hidx j hj] at h
   exact .inl ⟨j, hj, e3, h.symm⟩
  ·rw [if_neg hh] at h
   exact .inr ⟨by simpa using hh, h.symm⟩
 refine ⟨t, ht, ?_, ?_, fun s hs => ?_, fun s hs => ?_, fun s hs hne => ?_⟩
 ·unfold posB posR
  rw [e, if_neg (by simp [hni]), List.take_length]
  unfold mvI
  rw [if_pos hbi, hidx i hi]
 ·unfold posB
  rw [e, hnt, if_pos (by simp)]
 ·unfold posB
  by_cases hh : hasB ((lotAt f.lots w.length).ins.take i) (posW f w w.length s) = true
  ·rw [if_pos hh]
   intro h
   rw [h, hni] at hh
   cases hh
  ·rw [if_neg hh]
   intro h
   rcases hfar s hs h with ⟨j, hj, e3, e4⟩ | ⟨e3, e4⟩
   ·have := hlow j hj; omega
   ·rw [← e4, hbi] at e3; cases e3
 ·unfold posB
  rw [hnt]
  have hli := hlow i hi
  by_cases hh : (hasB ((lotAt f.lots w.length).ins.take i) (posW f w w.length s) || (nth (lotAt f.lots w.length).ins i == posW f w w.length s)) = true
  ·rw [if_pos hh]
   have := hlt s hs; omega
  ·rw [if_neg hh]
   intro h
   rcases hfar s hs h with ⟨j, hj, e3, e4⟩ | ⟨e3, e4⟩
   ·by_cases e5 : j = i
    ·subst e5
     rw [e3] at hh
     simp at hh
    ·exact hd j hj e5 (by omega)
   ·have := hlt s hs; omega
 ·unfold posB
  rw [hnt]
  have : (nth (lotAt f.lots w.length).ins i == posW f w w.length s) = false := by
   rw [beq_eq_false_iff_ne]
   exact fun h => hne (hin s hs h)
  rw [this, Bool.or_false]
/-- what walk's client promises where all lots are done -/
def EndC (E : EnvW) (K : Client E) : Prop := ∀ (m : Nat) (w : List (List Int)) (W : World) (t : K.T), StOk E.f w [] → w.length = E.f.lots.length → WalkS E w [] W → K.At t W → (∀ q, K.X t q → E.Free q ∧ q < W.heap.size) →
 Calls Tryz.prog E.pf #[.map (some E.bm), .int .i64 (-1), .int .i64 0, .nilFunc, E.p1, E.p2, E.p3, E.p4] W fun e W' =>
  e = .returned (.bool (K.res m t w [])) ∧ WalkS E w [] W' ∧ Turned (fun q => q = E.bm ∨ K.X t q) W W' ∧ K.Dn m t w [] W'
/-- what it promises where an input is next -/
def PartC (E : EnvW) (K : Client E) : Prop := ∀ (m : Nat) (w : List (List Int)) (part : List Int) (W : World) (t : K.T) (cy ct ci cf cl : Nat), StOk E.f w part → w.length < E.f.lots.length → (lotAt E.f.lots w.length).known = false → part.length < (lotAt E.f.lots w.length).ins.length →
 WalkS E w part W → K.At t W → (∀ q, K.X t q → E.Free q ∧ q < W.heap.size) → (∃ v, Taken E (K.X t) W v part ∧ EachF E w part v cy ct ci cf cl W) → EachC E K m w part W.heap.size cy ct ci cf cl t →
 Calls Tryz.prog E.pf #[.map (some E.bm), .int .i64 (w.length : Int), .int .i64 (part.length : Int), .func (.func 53) #[] #[.pointer (some ⟨cy, 0, none⟩), .pointer (some ⟨ct, 0, none⟩), .pointer (some ⟨E.cm, 0, none⟩), .pointer (some ⟨ci, 0, none⟩), .pointer (some ⟨cf, 0, none⟩), .pointer (some ⟨E.cd, 0, none⟩), .pointer (some ⟨cl, 0, none⟩)], E.p1, E.p2, E.p3, E.p4] W fun e W' =>
  e = .returned (.bool (K.res (m + 1) t w part)) ∧ WalkS E w part W' ∧ Turned (fun q => q = E.bm ∨ K.X t q) W W' ∧ K.Dn (m + 1) t w part W'
theorem settle_end {f : Flow} {w : List (List Int)} {part : List Int} (hw : w.length = f.lots.length) : settleS f w part = (w, part) := by
 unfold settleS
 rw [hw, Nat.sub_self]
 rfl
theorem settle_lot {f : Flow} {w : List (List Int)} {part : List Int} (hk : w.length < f.lots.length) : settleS f w part = if (lotAt f.lots w.length).known then settleS f (w ++ [(lotAt f.lots w.length).perm]) [] else if part.length < (lotAt f.lots w.length).ins.length then (w, part) else settleS f (w ++ [part]) [] := by
 unfold settleS
 obtain ⟨m, hm⟩ : ∃ m, f.lots.length - w.length = m + 1 := ⟨f.lots.length - w.length - 1, by omega⟩
 have e1 : f.lots.length - (w ++ [(lotAt f.lots w.length).perm]).length = m := by simp; omega
 have e2 : f.lots.length - (w ++ [part]).length = m := by simp; omega
 have e3 : f.lots.length - (m + 1) = w.length := by omega
 rw [hm, e1, e2]
 simp only [settleM, e3]
set_option maxHeartbeats 4000000 in
set_option maxRecDepth 100000 in
theorem decide_end (E : EnvW) (hE : E.Ok) (K : Client E) (hpf : E.pf = 30 ∨ E.pf = 34) (hcl : EndC E K) (m : Nat) (w : List (List Int)) (hso : StOk E.f w []) (hw : w.length = E.f.lots.length) : DecideAt E K m w [] := by
 intro W v t hS htk hat hX
 have hh := hcl m w
 rw [settle_end hw]
 obtain ⟨vF0, A0, R0, M0, g1, g2, g3, g4, g5, g6, _⟩ := hS.lots.lay
 obtain ⟨b, off, capL, ⟨aL, hvl, hL1, hL2, hL3⟩, hL4, hL5⟩ := hS.flow
 have m2 := g5.cell 0
 simp at m2
 rw [hvl] at m2
 have HM2 := Lib.hid m2
 have HQL : Hid (E.q0 < W.heap.size) := Lib.hid (by omega)
 have HS := Lib.hid hS
 have HKP := Lib.hid K.keep
 have HX := Lib.hid hX
 have HAT := Lib.hid hat
 have HHH := Lib.hid (fun (W' : World) (h1 : WalkS E w [] W') (h2 : K.At t W') (h3) => hh W' t hso hw h1 h2 h3)
 clear g1 g2 g3 g4 g5 g6 hL3 hL5 m2 hh hS hX hat
 rw [hw]
 go_enter Tryz.func52, Tryz.ntmps52
 go_upto_region 1 with fail
 refine wp_name (fun W1 hW1 => ?_)
 have HB1 : Hid (Below W.heap.size W W1) := Lib.hid (by rw [hW1]; exact (box_below' W _).trans ((box_below' _ _).mono (by simp)))
 have m1 := (HS.out.ext hE HB1.out).cx.cell
 have m2 := (HB1.out.cell (p := ⟨E.q0, 0, none⟩) HQL.out).trans HM2.out
 have m3 := (HS.out.ext hE HB1.out).cp.cell
 have m4 := (HS.out.ext hE HB1.out).co.cell
 have HK1 : Hid (Box W1 W.heap.size #[.int .i64 (E.f.lots.length : Int)]) := Lib.hid (by rw [hW1]; exact (Box.new W _ _).alloc _)
 have m5 := HK1.out.2
 clear hW1
 go_wp2
 go_quiet (fail)
 clear m1 m2 m5
 unfold EnvW.PV at m3
 have HPO : Hid (∀ k, Calls Tryz.prog E.pf #[.map (some E.bm), .int .i64 (-1), .int .i64 0, .nilFunc, E.p1, E.p2, E.p3, E.p4] (W1.drewN k) fun e W' =>
   e = .returned (.bool (K.res m t w [])) ∧ WalkS E w [] W' ∧ Turned (fun q => q = E.bm ∨ K.X t q) W W' ∧ K.Dn m t w [] W') := Lib.hid (fun k => by
  have hb : Below W.heap.size W (W1.drewN k) := HB1.out.trans ((below_drewN (Below.refl _ _) k).mono HB1.out.size)
  refine (HHH.out _ (HS.out.ext hE hb) (HKP.out _ _ _ HAT.out (Turned.of_below hb)) (fun q hq => ⟨(HX.out q hq).1, by have := (HX.out q hq).2; have := hb.size; omega⟩)).mono ?_
  rintro e W' ⟨e1, e2, e3, e4⟩
  exact ⟨e1, e2, (Turned.of_below hb).trans e3, e4⟩)
 rcases hpf with hpf | hpf
 ·rw [hpf] at m3 HPO
  go_wp2_with (go_at_call 30; refine (HPO.out _).mono ?_; rintro e w9 ⟨rfl, hq9⟩; have HQ9 := Lib.hid hq9; clear hq9)
  go_ret
  exact ⟨rfl, HQ9.out⟩
 ·rw [hpf] at m3 HPO
  go_wp2_with (go_at_call 34; refine (HPO.out _).mono ?_; rintro e w9 ⟨rfl, hq9⟩; have HQ9 := Lib.hid hq9; clear hq9)
  go_ret
  exact ⟨rfl, HQ9.out⟩
end Go.Proofs.YteiaeaciaglmgaaGreat
namespace Go.Proofs.YteiaeaciaglmgaaGreat
open Go.RowKit
/-- two blocks made, and stored into -/
structure AlA (W1 : World) (vi vk vp vb : Value) (f14 f15 f16 f17 : Bool) (x14 x15 : Value) (w : World) : Prop where
 bel : Below W1.heap.size W1 w
 a14 : f14 = true → ∃ c, x14 = .pointer (some ⟨c, 0, none⟩) ∧ W1.heap.size ≤ c ∧ (f16 = false → CellsN w c #[.slice none 0 0, .bool false, .slice none 0 0]) ∧ (f16 = true → CellsN w c #[vi, vk, vp]) ∧ (f15 = true → x15 ≠ .pointer (some ⟨c, 0, none⟩))
 a15 : f15 = true → ∃ c, x15 = .pointer (some ⟨c, 0, none⟩) ∧ W1.heap.size ≤ c ∧ c < w.heap.size ∧ (f17 = false → Cell1 w c (.int .i64 0)) ∧ (f17 = true → Cell1 w c vb)
theorem CellsN.ltN {w : World} {r : Nat} {c : Array Value} (h : CellsN w r c) : r < w.heap.size := by
 obtain ⟨t, h⟩ := h
 exact (Array.getElem?_eq_some_iff.1 h).1
theorem AlA.start {W1 : World} {vi vk vp vb x14 x15 : Value} (n : Nat) : AlA W1 vi vk vp vb false false false false x14 x15 (W1.drewN n) where
 bel := below_drewN (Below.refl _ _) n
 a14 := fun e => by cases e
 a15 := fun e => by cases e
section
variable {W1 : World} {vi vk vp vb : Value} {f14 f15 f16 f17 : Bool} {x14 x15 : Value} {w : World} (h : AlA W1 vi vk vp vb f14 f15 f16 f17 x14 x15 w)
include h
theorem AlA.s14 (h16 : f16 = false) {x : Value} (he : x = .pointer (some ⟨w.heap.size, 0, none⟩)) : AlA W1 vi vk vp vb true f15 f16 f17 x x15 (w.alloc (.cells #[.slice none 0 0, .bool false, .slice none 0 0] 64)) := by
 subst h16 he
 refine ⟨h.bel.alloc h.bel.size _, fun _ => ⟨_, rfl, h.bel.size, fun _ => CellsN.new w _ _, (fun e => by cases e), fun e e2 => ?_⟩, fun e => ?_⟩
 ·obtain ⟨c, q1, q2, q3, _⟩ := h.a15 e
  rw [q1] at e2
  simp only [Value.pointer.injEq, Option.some.injEq, Addr.mk.injEq] at e2
  omega
 ·obtain ⟨c, q1, q2, q3, q4, q5⟩ := h.a15 e
  exact ⟨c, q1, q2, by simp; omega, fun e => (q4 e).alloc _, fun e => (q5 e).alloc _⟩
theorem AlA.s15 (h17 : f17 = false) {x : Value} (he : x = .pointer (some ⟨w.heap.size, 0, none⟩)) : AlA W1 vi vk vp vb f14 true f16 f17 x14 x (w.alloc (.cells #[.int .i64 0] 3)) := by
 subst h17 he
 refine ⟨h.bel.alloc h.bel.size _, fun e => ?_, fun _ => ⟨_, rfl, h.bel.size, by simp, fun _ => Cell1.new w _ _, (fun e => by cases e)⟩⟩
 obtain ⟨c, q1, q2, q3, q4, q5⟩ := h.a14 e
 have hlt : c < w.heap.size := by
  cases hh : f16 with
  | false => exact (q3 hh).ltN
  | true => exact (q4 hh).ltN
 exact ⟨c, q1, q2, fun e => (q3 e).alloc _, fun e => (q4 e).alloc _, fun _ e => by simp only [Value.pointer.injEq, Option.some.injEq, Addr.mk.injEq] at e; omega⟩
theorem AlA.s16 (h14 : f14 = true) (h15 : f15 = true) (h16 : f16 = false) (h17 : f17 = false) {c : Nat} (hx : x14 = .pointer (some ⟨c, 0, none⟩)) : AlA W1 vi vk vp vb f14 f15 true f17 x14 x15 (((w.setCell ⟨c, 0, none⟩ vi).setCell ⟨c, 1, none⟩ vk).setCell ⟨c, 2, none⟩ vp) := by
 subst h14 h15 h16 h17 hx
 obtain ⟨c', q1, q2, q3, q4, q5⟩ := h.a14 rfl
 obtain rfl : c = c' := by simpa using q1
 obtain ⟨d, r1, r2, r3, r4, r5⟩ := h.a15 rfl
 have hcd : d ≠ c := fun e => q5 rfl (by rw [r1, e])
 have k1 := (((q3 rfl).set 0 vi).set 1 vk).set 2 vp
 refine ⟨((h.bel.setCell (p := ⟨c, 0, none⟩) q2 _).setCell (p := ⟨c, 1, none⟩) q2 _).setCell (p := ⟨c, 2, none⟩) q2 _, fun _ => ⟨c, rfl, q2, (fun e => by cases e), (fun _ => by simpa using k1), q5⟩, fun _ => ⟨d, r1, r2, by simpa using r3, fun _ => ?_, (fun e => by cases e)⟩⟩
 exact (((r4 rfl).grown (grown_setCell w ⟨c, 0, none⟩ vi) (by simpa using hcd)).grown (grown_setCell _ ⟨c, 1, none⟩ vk) (by simpa using hcd)).grown (grown_setCell _ ⟨c, 2, none⟩ vp) (by simpa using hcd)
theorem AlA.s17 (h14 : f14 = true) (h15 : f15 = true) (h16 : f16 = true) (h17 : f17 = false) {d : Nat} (hx : x15 = .pointer (some ⟨d, 0, none⟩)) : AlA W1 vi vk vp vb f14 f15 f16 true x14 x15 (w.setCell ⟨d, 0, none⟩ vb) := by
 subst h14 h15 h16 h17 hx
 obtain ⟨c, q1, q2, q3, q4, q5⟩ := h.a14 rfl
 obtain ⟨d', r1, r2, r3, r4, r5⟩ := h.a15 rfl
 obtain rfl : d = d' := by simpa using r1
 have hcd : c ≠ d := fun e => q5 rfl (by rw [e])
 exact ⟨h.bel.setCell (p := ⟨d, 0, none⟩) r2 _, fun _ => ⟨c, q1, q2, (fun e => by cases e), fun _ => (q4 rfl).grown (grown_setCell w ⟨d, 0, none⟩ vb) (by simpa using hcd), q5⟩, fun _ => ⟨d, rfl, r2, by simpa using r3, (fun e => by cases e), fun _ => (r4 rfl).set vb⟩⟩
end
set_option maxHeartbeats 8000000 in
set_option maxRecDepth 100000 in
theorem decide_lot (E : EnvW) (hE : E.Ok) (K : Client E) (hpf : E.pf = 30 ∨ E.pf = 34) (hcl : PartC E K) (hX0 : ∀ t q, K.X0 q → K.X t q) (hc : checkE E.f = 0) (m : Nat) (w : List (List Int)) (part : List Int) (hso : StOk E.f w part) (hk : w.length < E.f.lots.length)
  (hnk : (lotAt E.f.lots w.length).known = true → DecideAt E K m (w ++ [(lotAt E.f.lots w.length).perm]) [])
  (hnf : (lotAt E.f.lots w.length).known = false → part.length = (lotAt E.f.lots w.length).ins.length → DecideAt E K m (w ++ [part]) [])
  (hnm : (lotAt E.f.lots w.length).known = false → part.length < (lotAt E.f.lots w.length).ins.length → ∃ m', m = m' + 1 ∧ ∀ i : Nat, i < (lotAt E.f.lots w.length).ins.length → hasB part (i : Int) = false → DecideAt E K m' w (part ++ [(i : Int)])) : DecideAt E K m w part := by
 intro W v t hS htk hat hX
 obtain ⟨h0, h64, hl2, hb5, hlo⟩ := checkE_ok hc
 have HLB := Lib.hid (lotB_parts (lotsB_lot hlo hk))
 have HSO := Lib.hid hso
 obtain ⟨av, cv, rfl⟩ := htk.slice
 obtain ⟨b, off, capL, ⟨aL, hvl, hL1, hL2, hL3⟩, hL4, hL5⟩ := hS.flow
 obtain rfl : aL = some ⟨b, off, none⟩ := by rcases hL3 with h | h; exact h; omega
 obtain ⟨vi, vk, vp, q1, q2, q3, hli, rfl, hlp⟩ := hL5 w.length hk
 obtain ⟨ai, ci', rfl⟩ := hli.form
 obtain ⟨ap, cp', rfl⟩ := hlp.form
 have HLI2 := Lib.hid hli
 have HLP := Lib.hid hlp
 obtain ⟨bF, oF, cF, r1, r2, r3⟩ := hS.lots.read hk
 rw [hvl] at r1
 obtain ⟨vF0, A0, R0, M0, g1, g2, g3, g4, g5, g6, _⟩ := hS.lots.lay
 have HQL : Hid (E.q0 < W.heap.size) := Lib.hid (by omega)
 have HS := Lib.hid hS
 have HTK := Lib.hid htk
 have HKP := Lib.hid K.keep
 have HKD := Lib.hid K.keepD
 have HX := Lib.hid hX
 have HAT := Lib.hid hat
 have HSZ : Hid (E.B ≤ W.heap.size ∧ E.C ≤ W.heap.size ∧ E.bm < E.C) := Lib.hid (by have := hS.sz; have h1 := hE.o1; have h2 := hE.o2; have h3 := hE.o3; have h4 := hE.x3; omega)
 have hni : (lotAt E.f.lots w.length).ins.length ≤ 50000 := ins_small hc hk
 have HRD0 : Hid (∀ W', Below W.heap.size W W' → W'.cell? ⟨E.cx, 0, none⟩ = some (.pointer (some ⟨E.q0, 0, none⟩)) ∧ W'.cell? ⟨E.q0, 0, none⟩ = some (.slice (some ⟨b, off, none⟩) E.f.lots.length capL) ∧ W'.cell? ⟨E.q0, 1, none⟩ = some (.slice (some ⟨bF, oF, none⟩) E.f.lots.length cF) ∧
   W'.cell? ⟨b, off + w.length * 3, none⟩ = some (.slice ai (lotAt E.f.lots w.length).ins.length ci') ∧ W'.cell? ⟨b, off + w.length * 3 + 1, none⟩ = some (.bool (lotAt E.f.lots w.length).known) ∧ W'.cell? ⟨b, off + w.length * 3 + 2, none⟩ = some (.slice ap (lotAt E.f.lots w.length).perm.length cp') ∧
   W'.cell? ⟨bF, oF + w.length, none⟩ = some (.int .i64 (beforeI E.f w.length))) := Lib.hid (fun W' hb => by
  have hbW := hb.mono HSZ.out.1
  obtain ⟨bF', oF', cF', r1', r2', r3'⟩ := (hS.ext hE hb).lots.read hk
  have e2 := (hb.cell (p := ⟨E.q0, 1, none⟩) HQL.out).trans r2
  rw [r2'] at e2
  simp only [Option.some.injEq, Value.slice.injEq, Addr.mk.injEq] at e2
  obtain ⟨⟨e3, e4, _⟩, _, e5⟩ := e2
  subst e3 e4 e5
  exact ⟨(hS.ext hE hb).cx.cell, (hb.cell (p := ⟨E.q0, 0, none⟩) HQL.out).trans r1, r2', (q1.below hbW (Nat.le_refl _)).2, (q2.below hbW (Nat.le_refl _)).2, (q3.below hbW (Nat.le_refl _)).2, r3'⟩)
 have hmf := @run_makeFunc_any Tryz.prog
 have HNK := Lib.hid hnk
 have HNF := Lib.hid hnf
 have HNM := Lib.hid hnm
 have HPC := Lib.hid hcl
 have HX0 := Lib.hid (hX0 t)
 have HEA := Lib.hid (fun (m' : Nat) (hp : part.length < (lotAt E.f.lots w.length).ins.length) (hd) (s cy ct ci cf cl : Nat) (a1) (a2) (a3) => each_any E hE K m' w part hc hso hk hp hd t s cy ct ci cf cl a1 a2 a3 (hX0 t))
 have hse := settle_lot (part := part) hk
 have HWP := Lib.hid hso.way
 have h64 : beforeI E.f w.length + (lotAt E.f.lots w.length).ins.length ≤ 50000 := (before_bd hc (k := w.length + 1) (by omega)).2
 have h065 := (before_bd hc (k := w.length) (by omega)).1
 have HPF := Lib.hid hso.fit
 have HRW := Lib.hid (fun (h : (lotAt E.f.lots w.length).known = true) => hso.known h)
 have HST := Lib.hid (fun i hi row h1 h2 => posR_step hc hso.way hk (i := i) hi (row := row) h1 h2)
 have HSB := Lib.hid (fun i hi row h1 h2 => posB_step hc hso.way hk (i := i) hi (row := row) h1 h2)
 clear hL3 hL5 q1 q2 q3 hli hlp r1 r2 r3 g1 g2 g3 g4 g5 g6 hS htk hX hat hnk hnf hnm hcl hX0 hso
 obtain ⟨kn, hkn⟩ : ∃ x, (lotAt E.f.lots w.length).known = x := ⟨_, rfl⟩
 have HKN := Lib.hid hkn
 rw [hkn] at hse HRD0
 obtain ⟨FB, hFB⟩ : ∃ X, beforeI E.f w.length = X := ⟨_, rfl⟩
 have HFB := Lib.hid hFB
 rw [hFB] at HRD0 h64 h065 HST HSB
 obtain ⟨N, hN⟩ : ∃ X, (lotAt E.f.lots w.length).ins.length = X := ⟨_, rfl⟩
 have HN := Lib.hid hN
 rw [hN] at HRD0 hni h64
 obtain ⟨NP, hNP⟩ : ∃ X, (lotAt E.f.lots w.length).perm.length = X := ⟨_, rfl⟩
 have HNP := Lib.hid hNP
 rw [hNP] at HRD0
 clear hN hNP
 obtain ⟨k, hkk⟩ : ∃ X, w.length = X := ⟨_, rfl⟩
 have HKK := Lib.hid hkk
 obtain ⟨SS, hSS⟩ : ∃ x, settleS E.f w part = x := ⟨_, rfl⟩
 rw [hSS] at hse ⊢
 have HSE := Lib.hid hse
 clear hSS
 have hk2 : k < E.f.lots.length := by rw [← hkk]; exact hk
 rw [hkk] at HRD0 ⊢
 clear hkn hFB hkk hse hk
 go_enter Tryz.func52, Tryz.ntmps52
 go_upto_region 1 with fail
 refine wp_name (fun W1 hW1 => ?_)
 have HB1 : Hid (Below W.heap.size W W1) := Lib.hid (by rw [hW1]; exact (box_below' W _).trans ((box_below' _ _).mono (by simp)))
 have HK1 : Hid (Cell1 W1 W.heap.size (.int .i64 (k : Int))) := Lib.hid (by rw [hW1]; exact (Cell1.new W _ _).alloc _)
 have HT1 : Hid (Cell1 W1 (W.heap.size + 1) (.slice av part.length cv)) := Lib.hid (by
  rw [hW1]
  have h := Cell1.new (W.alloc (.cells #[.int .i64 (k : Int)] 3)) (.slice av part.length cv) 25
  rw [World.size_alloc] at h
  exact h)
 have HZ1 : Hid (W1.heap.size = W.heap.size + 1 + 1) := Lib.hid (by rw [hW1]; simp)
 have HRD : Hid (∀ W', Below W1.heap.size W1 W' → Below W.heap.size W W' ∧ W'.cell? ⟨W.heap.size, 0, none⟩ = some (.int .i64 (k : Int))) := Lib.hid (fun W' h => ⟨HB1.out.trans (h.mono HB1.out.size), (HK1.out.ext h).cell⟩)
 obtain ⟨m1, m2, _⟩ := HRD0.out W1 HB1.out
 have m3 := HK1.out.cell
 have hne : ((k : Int) == (E.f.lots.length : Int)) = false := by simp; omega
 have hne2 : (k == E.f.lots.length) = false := by simp; omega
 clear hW1
 go_wp2
 go_quiet (fail)
 clear m1 m2 m3
 go_upto_region 3 with fail
 refine wp_name (fun W2 hW2 => ?_)
 have HB2 : Hid (Below W1.heap.size W1 W2) := Lib.hid (by rw [hW2]; exact below_drewN (Below.refl _ _) _)
 have HZ2 : Hid (W2.heap.size = W.heap.size + 1 + 1) := Lib.hid (by rw [hW2]; exact HZ1.out)
 clear hW2
 obtain ⟨V, hV⟩ : ∃ V : List (Option Value), V = [some (.pointer (some ⟨E.q0, 0, none⟩)), some (.pointer (some ⟨E.q0, 0, none⟩)), some (.pointer (some ⟨E.q0, 0, none⟩)), some (.slice (some ⟨b, off, none⟩) E.f.lots.length capL), some (.int .i64 (k : Int)), some (.pointer (some ⟨b, off + k * 3, none⟩)), some (.agg #[.slice ai N ci', .bool kn, .slice ap NP cp']), some (.pointer (some ⟨E.q0, 0, none⟩)), some (.pointer (some ⟨E.q0, 0, none⟩)), some (.pointer (some ⟨E.q0, 1, none⟩)), some (.slice (some ⟨bF, oF, none⟩) E.f.lots.length cF), some (.int .i64 (k : Int)), some (.pointer (some ⟨bF, oF + k, none⟩)), some (.int .i64 FB), none, none, none, none] := ⟨_, rfl⟩
 have HVV := Lib.hid hV
 clear hV
 refine wp_region_V [some 28, some 29, some 30, some 31, some 32, some 33, some 34, some 35, some 36, some 37, some 38, some 39, some 40, some 41, some 10, some 11, none, none] (fun L w' xs => ValsAt V L xs ∧ (AlA W2 (.slice ai N ci') (.bool kn) (.slice ap NP cp') (.int .i64 FB) (L 14) (L 15) (L 16) (L 17) (xs 14) (xs 15) w' ∧ ((L 16 = true → L 14 = true ∧ L 15 = true) ∧ (L 17 = true → L 16 = true)))) (by kernel_rfl) (by kernel_rfl) (by rfl) (by rfl) (by rfl) ?_ ?_ ?_
 focus
  exact fun xs => ⟨ValsAt.none _ _, (by exact AlA.start 1), ⟨(fun e => by cases e), (fun e => by cases e)⟩⟩
 focus
  refine ⟨?_, ?_, ?_, ?_, ?_, ?_, ?_, ?_, ?_, ?_, ?_, ?_, ?_, ?_, ?_, ?_, ?_, ?_, trivial⟩
  all_goals
   intro L a' w' xs hi hd hf hJ K hK
   obtain ⟨hv, hA, h9⟩ := hJ
   have HF := Lib.hid hf
   have HVA := Lib.hid hv
   have HLI := Lib.hid hi
   clear hf hv hi
  focus
   clear hd
   obtain ⟨ρ, hρ⟩ : ∃ ρ, a'.eval = ρ := ⟨_, rfl⟩
   have hcst := cstE hρ
   have l2 : ρ (.tmp 2) = .pointer (some ⟨E.cx, 0, none⟩) := (congrFun hρ (.tmp 2)).symm.trans (HF.out.lo 2 rfl)
   obtain ⟨hbw, mk⟩ := HRD.out _ (HB2.out.trans (hA.bel.mono HB2.out.size))
   obtain ⟨m0, m1, m2, m3, m4, m5, m6⟩ := HRD0.out _ hbw
   rw [if_pos (by simp [Region.wanted])]
   unfold Oper.wp
   rw [hρ]
   clear hρ
   go_simp
   exact hK.out _ _ ⟨HVA.out.set (i := 0) (by rw [HVV.out]; rfl), (by simp only [une xs 14 0 rfl, une xs 15 0 rfl]; exact hA), (by exact h9)⟩
  focus
   obtain ⟨d0, _⟩ := hd
   obtain ⟨ρ, hρ⟩ : ∃ ρ, a'.eval = ρ := ⟨_, rfl⟩
   have hcst := cstE hρ
   have v0 : ρ (.tmp 28) = .pointer (some ⟨E.q0, 0, none⟩) := (congrFun hρ (.tmp 28)).symm.trans ((HF.out.ev 0 rfl d0).trans (HVA.out 0 _ (by rw [HVV.out]; rfl) d0))
   rw [if_pos (by simp [Region.wanted])]
   unfold Oper.wp
   rw [hρ]
   clear hρ
   go_simp
   exact hK.out _ _ ⟨HVA.out.set (i := 1) (by rw [HVV.out]; rfl), (by simp only [une xs 14 1 rfl, une xs 15 1 rfl]; exact hA), (by exact h9)⟩
  focus
   obtain ⟨d1, _⟩ := hd
   obtain ⟨ρ, hρ⟩ : ∃ ρ, a'.eval = ρ := ⟨_, rfl⟩
   have hcst := cstE hρ
   have v1 : ρ (.tmp 29) = .pointer (some ⟨E.q0, 0, none⟩) := (congrFun hρ (.tmp 29)).symm.trans ((HF.out.ev 1 rfl d1).trans (HVA.out 1 _ (by rw [HVV.out]; rfl) d1))
   rw [if_pos (by simp [Region.wanted])]
   unfold Oper.wp
   rw [hρ]
   clear hρ
   go_simp
   exact hK.out _ _ ⟨HVA.out.set (i := 2) (by rw [HVV.out]; rfl), (by simp only [une xs 14 2 rfl, une xs 15 2 rfl]; exact hA), (by exact h9)⟩
  focus
   obtain ⟨d2, _⟩ := hd
   obtain ⟨ρ, hρ⟩ : ∃ ρ, a'.eval = ρ := ⟨_, rfl⟩
   have hcst := cstE hρ
   have v2 : ρ (.tmp 30) = .pointer (some ⟨E.q0, 0, none⟩) := (congrFun hρ (.tmp 30)).symm.trans ((HF.out.ev 2 rfl d2).trans (HVA.out 2 _ (by rw [HVV.out]; rfl) d2))
   obtain ⟨hbw, mk⟩ := HRD.out _ (HB2.out.trans (hA.bel.mono HB2.out.size))
   obtain ⟨m0, m1, m2, m3, m4, m5, m6⟩ := HRD0.out _ hbw
   rw [if_pos (by simp [Region.wanted])]
   unfold Oper.wp
   rw [hρ]
   clear hρ
   go_simp
   exact hK.out _ _ ⟨HVA.out.set (i := 3) (by rw [HVV.out]; rfl), (by simp only [une xs 14 3 rfl, une xs 15 3 rfl]; exact hA), (by exact h9)⟩
  focus
   clear hd
   obtain ⟨ρ, hρ⟩ : ∃ ρ, a'.eval = ρ := ⟨_, rfl⟩
   have hcst := cstE hρ
   have l7 : ρ (.tmp 7) = .pointer (some ⟨W.heap.size, 0, none⟩) := (congrFun hρ (.tmp 7)).symm.trans (HF.out.lo 7 rfl)
   obtain ⟨hbw, mk⟩ := HRD.out _ (HB2.out.trans (hA.bel.mono HB2.out.size))
   obtain ⟨m0, m1, m2, m3, m4, m5, m6⟩ := HRD0.out _ hbw
   rw [if_pos (by simp [Region.wanted])]
   unfold Oper.wp
   rw [hρ]
   clear hρ
   go_simp
   exact hK.out _ _ ⟨HVA.out.set (i := 4) (by rw [HVV.out]; rfl), (by simp only [une xs 14 4 rfl, une xs 15 4 rfl]; exact hA), (by exact h9)⟩
  focus
   obtain ⟨d3, d4, _⟩ := hd
   obtain ⟨ρ, hρ⟩ : ∃ ρ, a'.eval = ρ := ⟨_, rfl⟩
   have hcst := cstE hρ
   have v3 : ρ (.tmp 31) = .slice (some ⟨b, off, none⟩) E.f.lots.length capL := (congrFun hρ (.tmp 31)).symm.trans ((HF.out.ev 3 rfl d3).trans (HVA.out 3 _ (by rw [HVV.out]; rfl) d3))
   have v4 : ρ (.tmp 32) = .int .i64 (k : Int) := (congrFun hρ (.tmp 32)).symm.trans ((HF.out.ev 4 rfl d4).trans (HVA.out 4 _ (by rw [HVV.out]; rfl) d4))
   rw [if_pos (by simp [Region.wanted])]
   unfold Oper.wp
   rw [hρ]
   clear hρ
   go_simp
   exact hK.out _ _ ⟨HVA.out.set (i := 5) (by rw [HVV.out]; rfl), (by simp only [une xs 14 5 rfl, une xs 15 5 rfl]; exact hA), (by exact h9)⟩
  focus
   obtain ⟨d5, _⟩ := hd
   obtain ⟨ρ, hρ⟩ : ∃ ρ, a'.eval = ρ := ⟨_, rfl⟩
   have hcst := cstE hρ
   have v5 : ρ (.tmp 33) = .pointer (some ⟨b, off + k * 3, none⟩) := (congrFun hρ (.tmp 33)).symm.trans ((HF.out.ev 5 rfl d5).trans (HVA.out 5 _ (by rw [HVV.out]; rfl) d5))
   obtain ⟨hbw, mk⟩ := HRD.out _ (HB2.out.trans (hA.bel.mono HB2.out.size))
   obtain ⟨m0, m1, m2, m3, m4, m5, m6⟩ := HRD0.out _ hbw
   rw [if_pos (by simp [Region.wanted])]
   unfold Oper.wp
   rw [hρ]
   clear hρ
   go_simp
   exact hK.out _ _ ⟨HVA.out.set (i := 6) (by rw [HVV.out]; rfl), (by simp only [une xs 14 6 rfl, une xs 15 6 rfl]; exact hA), (by exact h9)⟩
  focus
   clear hd
   obtain ⟨ρ, hρ⟩ : ∃ ρ, a'.eval = ρ := ⟨_, rfl⟩
   have hcst := cstE hρ
   have l2 : ρ (.tmp 2) = .pointer (some ⟨E.cx, 0, none⟩) := (congrFun hρ (.tmp 2)).symm.trans (HF.out.lo 2 rfl)
   obtain ⟨hbw, mk⟩ := HRD.out _ (HB2.out.trans (hA.bel.mono HB2.out.size))
   obtain ⟨m0, m1, m2, m3, m4, m5, m6⟩ := HRD0.out _ hbw
   rw [if_pos (by simp [Region.wanted])]
   unfold Oper.wp
   rw [hρ]
   clear hρ
   go_simp
   exact hK.out _ _ ⟨HVA.out.set (i := 7) (by rw [HVV.out]; rfl), (by simp only [une xs 14 7 rfl, une xs 15 7 rfl]; exact hA), (by exact h9)⟩
  focus
   obtain ⟨d7, _⟩ := hd
   obtain ⟨ρ, hρ⟩ : ∃ ρ, a'.eval = ρ := ⟨_, rfl⟩
   have hcst := cstE hρ
   have v7 : ρ (.tmp 35) = .pointer (some ⟨E.q0, 0, none⟩) := (congrFun hρ (.tmp 35)).symm.trans ((HF.out.ev 7 rfl d7).trans (HVA.out 7 _ (by rw [HVV.out]; rfl) d7))
   rw [if_pos (by simp [Region.wanted])]
   unfold Oper.wp
   rw [hρ]
   clear hρ
   go_simp
   exact hK.out _ _ ⟨HVA.out.set (i := 8) (by rw [HVV.out]; rfl), (by simp only [une xs 14 8 rfl, une xs 15 8 rfl]; exact hA), (by exact h9)⟩
  focus
   obtain ⟨d8, _⟩ := hd
   obtain ⟨ρ, hρ⟩ : ∃ ρ, a'.eval = ρ := ⟨_, rfl⟩
   have hcst := cstE hρ
   have v8 : ρ (.tmp 36) = .pointer (some ⟨E.q0, 0, none⟩) := (congrFun hρ (.tmp 36)).symm.trans ((HF.out.ev 8 rfl d8).trans (HVA.out 8 _ (by rw [HVV.out]; rfl) d8))
   rw [if_pos (by simp [Region.wanted])]
   unfold Oper.wp
   rw [hρ]
   clear hρ
   go_simp
   exact hK.out _ _ ⟨HVA.out.set (i := 9) (by rw [HVV.out]; rfl), (by simp only [une xs 14 9 rfl, une xs 15 9 rfl]; exact hA), (by exact h9)⟩
  focus
   obtain ⟨d9, _⟩ := hd
   obtain ⟨ρ, hρ⟩ : ∃ ρ, a'.eval = ρ := ⟨_, rfl⟩
   have hcst := cstE hρ
   have v9 : ρ (.tmp 37) = .pointer (some ⟨E.q0, 1, none⟩) := (congrFun hρ (.tmp 37)).symm.trans ((HF.out.ev 9 rfl d9).trans (HVA.out 9 _ (by rw [HVV.out]; rfl) d9))
   obtain ⟨hbw, mk⟩ := HRD.out _ (HB2.out.trans (hA.bel.mono HB2.out.size))
   obtain ⟨m0, m1, m2, m3, m4, m5, m6⟩ := HRD0.out _ hbw
   rw [if_pos (by simp [Region.wanted])]
   unfold Oper.wp
   rw [hρ]
   clear hρ
   go_simp
   exact hK.out _ _ ⟨HVA.out.set (i := 10) (by rw [HVV.out]; rfl), (by simp only [une xs 14 10 rfl, une xs 15 10 rfl]; exact hA), (by exact h9)⟩
  focus
   clear hd
   obtain ⟨ρ, hρ⟩ : ∃ ρ, a'.eval = ρ := ⟨_, rfl⟩
   have hcst := cstE hρ
   have l7 : ρ (.tmp 7) = .pointer (some ⟨W.heap.size, 0, none⟩) := (congrFun hρ (.tmp 7)).symm.trans (HF.out.lo 7 rfl)
   obtain ⟨hbw, mk⟩ := HRD.out _ (HB2.out.trans (hA.bel.mono HB2.out.size))
   obtain ⟨m0, m1, m2, m3, m4, m5, m6⟩ := HRD0.out _ hbw
   rw [if_pos (by simp [Region.wanted])]
   unfold Oper.wp
   rw [hρ]
   clear hρ
   go_simp
   exact hK.out _ _ ⟨HVA.out.set (i := 11) (by rw [HVV.out]; rfl), (by simp only [une xs 14 11 rfl, une xs 15 11 rfl]; exact hA), (by exact h9)⟩
  focus
   obtain ⟨d10, d11, _⟩ := hd
   obtain ⟨ρ, hρ⟩ : ∃ ρ, a'.eval = ρ := ⟨_, rfl⟩
   have hcst := cstE hρ
   have v10 : ρ (.tmp 38) = .slice (some ⟨bF, oF, none⟩) E.f.lots.length cF := (congrFun hρ (.tmp 38)).symm.trans ((HF.out.ev 10 rfl d10).trans (HVA.out 10 _ (by rw [HVV.out]; rfl) d10))
   have v11 : ρ (.tmp 39) = .int .i64 (k : Int) := (congrFun hρ (.tmp 39)).symm.trans ((HF.out.ev 11 rfl d11).trans (HVA.out 11 _ (by rw [HVV.out]; rfl) d11))
   rw [if_pos (by simp [Region.wanted])]
   unfold Oper.wp
   rw [hρ]
   clear hρ
   go_simp
   exact hK.out _ _ ⟨HVA.out.set (i := 12) (by rw [HVV.out]; rfl), (by simp only [une xs 14 12 rfl, une xs 15 12 rfl]; exact hA), (by exact h9)⟩
  focus
   obtain ⟨d12, _⟩ := hd
   obtain ⟨ρ, hρ⟩ : ∃ ρ, a'.eval = ρ := ⟨_, rfl⟩
   have hcst := cstE hρ
   have v12 : ρ (.tmp 40) = .pointer (some ⟨bF, oF + k, none⟩) := (congrFun hρ (.tmp 40)).symm.trans ((HF.out.ev 12 rfl d12).trans (HVA.out 12 _ (by rw [HVV.out]; rfl) d12))
   obtain ⟨hbw, mk⟩ := HRD.out _ (HB2.out.trans (hA.bel.mono HB2.out.size))
   obtain ⟨m0, m1, m2, m3, m4, m5, m6⟩ := HRD0.out _ hbw
   rw [if_pos (by simp [Region.wanted])]
   unfold Oper.wp
   rw [hρ]
   clear hρ
   go_simp
   exact hK.out _ _ ⟨HVA.out.set (i := 13) (by rw [HVV.out]; rfl), (by simp only [une xs 14 13 rfl, une xs 15 13 rfl]; exact hA), (by exact h9)⟩
  focus
   clear hd
   obtain ⟨ρ, hρ⟩ : ∃ ρ, a'.eval = ρ := ⟨_, rfl⟩
   have hcst := cstE hρ
   rw [if_pos (by simp [Region.wanted])]
   unfold Oper.wp
   rw [hρ]
   clear hρ
   have e16 : L 16 = false := by
    cases e : L 16 with
    | false => rfl
    | true => have := (h9.1 e).1; rw [HLI.out] at this; cases this
   go_simp
   exact hK.out _ _ ⟨HVA.out.free (i := 14) (by rw [HVV.out]; rfl) _, (by simp only [une xs 15 14 rfl, updV_self]; exact hA.s14 e16 rfl), (by exact ⟨fun e => ⟨rfl, (h9.1 e).2⟩, h9.2⟩)⟩
  focus
   clear hd
   obtain ⟨ρ, hρ⟩ : ∃ ρ, a'.eval = ρ := ⟨_, rfl⟩
   have hcst := cstE hρ
   rw [if_pos (by simp [Region.wanted])]
   unfold Oper.wp
   rw [hρ]
   clear hρ
   have e16 : L 16 = false := by
    cases e : L 16 with
    | false => rfl
    | true => have := (h9.1 e).2; rw [HLI.out] at this; cases this
   have e17 : L 17 = false := by
    cases e : L 17 with
    | false => rfl
    | true => have := h9.2 e; rw [e16] at this; cases this
   go_simp
   exact hK.out _ _ ⟨HVA.out.free (i := 15) (by rw [HVV.out]; rfl) _, (by simp only [une xs 14 15 rfl, updV_self]; exact hA.s15 e17 rfl), (by exact ⟨fun e => ⟨(h9.1 e).1, rfl⟩, h9.2⟩)⟩
  focus
   obtain ⟨d14, d6, d0, d1, d2, d3, d4, d5, _, _, d15, _⟩ := hd
   obtain ⟨ρ, hρ⟩ : ∃ ρ, a'.eval = ρ := ⟨_, rfl⟩
   have hcst := cstE hρ
   have v14 : ρ (.tmp 10) = xs 14 := (congrFun hρ (.tmp 10)).symm.trans (HF.out.ev 14 rfl d14)
   have v6 : ρ (.tmp 34) = .agg #[.slice ai N ci', .bool kn, .slice ap NP cp'] := (congrFun hρ (.tmp 34)).symm.trans ((HF.out.ev 6 rfl d6).trans (HVA.out 6 _ (by rw [HVV.out]; rfl) d6))
   rw [if_pos (by simp [Region.wanted])]
   unfold Oper.wp
   rw [hρ]
   clear hρ
   have e17 : L 17 = false := by
    cases e : L 17 with
    | false => rfl
    | true => have := h9.2 e; rw [HLI.out] at this; cases this
   obtain ⟨c, e1, c2, c3, _⟩ := hA.a14 d14
   have hSS := Lib.hid (hA.s16 d14 d15 HLI.out e17 e1)
   have hzd := c3 HLI.out
   have fz0 := hzd.free 0
   have fz1 := hzd.free 1
   have fz2 := hzd.free 2
   have zz0 := hzd.cell 0
   have zz1 := hzd.cell 1
   have zz2 := hzd.cell 2
   simp at zz0 zz1 zz2
   rw [e1] at v14
   clear hzd c3 e1
   go_simp
   exact hK.out undef _ ⟨HVA.out.free (i := 16) (by rw [HVV.out]; rfl) _, (by simp only [une xs 14 16 rfl, une xs 15 16 rfl]; exact hSS.out), (by exact ⟨fun _ => ⟨d14, d15⟩, fun _ => rfl⟩)⟩
  focus
   obtain ⟨d15, d13, d16, d0, d1, d2, d3, d4, d5, d6, d7, d8, d9, d10, d11, d12, _, d14, _, _, _⟩ := hd
   obtain ⟨ρ, hρ⟩ : ∃ ρ, a'.eval = ρ := ⟨_, rfl⟩
   have hcst := cstE hρ
   have v15 : ρ (.tmp 11) = xs 15 := (congrFun hρ (.tmp 11)).symm.trans (HF.out.ev 15 rfl d15)
   have v13 : ρ (.tmp 41) = .int .i64 FB := (congrFun hρ (.tmp 41)).symm.trans ((HF.out.ev 13 rfl d13).trans (HVA.out 13 _ (by rw [HVV.out]; rfl) d13))
   rw [if_pos (by simp [Region.wanted])]
   unfold Oper.wp
   rw [hρ]
   clear hρ
   obtain ⟨c, e1, c2, _, c4, _⟩ := hA.a15 d15
   have hSS := Lib.hid (hA.s17 d14 d15 d16 HLI.out e1)
   have fz0 := (c4 HLI.out).free
   have zz0 := (c4 HLI.out).cell
   rw [e1] at v15
   clear c4 e1
   go_simp
   exact hK.out undef _ ⟨HVA.out.free (i := 17) (by rw [HVV.out]; rfl) _, (by simp only [une xs 14 17 rfl, une xs 15 17 rfl]; exact hSS.out), (by exact ⟨h9.1, fun _ => d16⟩)⟩
 focus
  intro L w' xs hL hJ
  obtain ⟨hv, hA, h9⟩ := hJ
  have e0 : xs 0 = .pointer (some ⟨E.q0, 0, none⟩) := hv 0 _ (by rw [HVV.out]; rfl) (hL 0 (by decide))
  have e1 : xs 1 = .pointer (some ⟨E.q0, 0, none⟩) := hv 1 _ (by rw [HVV.out]; rfl) (hL 1 (by decide))
  have e2 : xs 2 = .pointer (some ⟨E.q0, 0, none⟩) := hv 2 _ (by rw [HVV.out]; rfl) (hL 2 (by decide))
  have e3 : xs 3 = .slice (some ⟨b, off, none⟩) E.f.lots.length capL := hv 3 _ (by rw [HVV.out]; rfl) (hL 3 (by decide))
  have e4 : xs 4 = .int .i64 (k : Int) := hv 4 _ (by rw [HVV.out]; rfl) (hL 4 (by decide))
  have e5 : xs 5 = .pointer (some ⟨b, off + k * 3, none⟩) := hv 5 _ (by rw [HVV.out]; rfl) (hL 5 (by decide))
  have e6 : xs 6 = .agg #[.slice ai N ci', .bool kn, .slice ap NP cp'] := hv 6 _ (by rw [HVV.out]; rfl) (hL 6 (by decide))
  have e7 : xs 7 = .pointer (some ⟨E.q0, 0, none⟩) := hv 7 _ (by rw [HVV.out]; rfl) (hL 7 (by decide))
  have e8 : xs 8 = .pointer (some ⟨E.q0, 0, none⟩) := hv 8 _ (by rw [HVV.out]; rfl) (hL 8 (by decide))
  have e9 : xs 9 = .pointer (some ⟨E.q0, 1, none⟩) := hv 9 _ (by rw [HVV.out]; rfl) (hL 9 (by decide))
  have e10 : xs 10 = .slice (some ⟨bF, oF, none⟩) E.f.lots.length cF := hv 10 _ (by rw [HVV.out]; rfl) (hL 10 (by decide))
  have e11 : xs 11 = .int .i64 (k : Int) := hv 11 _ (by rw [HVV.out]; rfl) (hL 11 (by decide))
  have e12 : xs 12 = .pointer (some ⟨bF, oF + k, none⟩) := hv 12 _ (by rw [HVV.out]; rfl) (hL 12 (by decide))
  have e13 : xs 13 = .int .i64 FB := hv 13 _ (by rw [HVV.out]; rfl) (hL 13 (by decide))
  simp only [putGo, Act.put, List.setIfInBounds_toArray, List.set_cons_zero, List.set_cons_succ, e0, e1, e2, e3, e4, e5, e6, e7, e8, e9, e10, e11, e12, e13]
  clear hv e0 e1 e2 e3 e4 e5 e6 e7 e8 e9 e10 e11 e12 e13
 obtain ⟨cy, e14, cyS, _, cyC, cyN⟩ := hA.a14 (hL 14 (by decide))
 obtain ⟨cf, e15, cfS, _, _, cfC⟩ := hA.a15 (hL 15 (by decide))
 obtain ⟨W3, hW3⟩ : ∃ x, w' = x := ⟨_, rfl⟩
 have HB3 := Lib.hid hA.bel
 have HCY := Lib.hid (cyC (hL 16 (by decide)))
 have HCF := Lib.hid (cfC (hL 17 (by decide)))
 rw [e14, e15]
 rw [hW3] at HB3 HCY HCF ⊢
 have HNU : Hid (W.heap.size + 1 + 1 ≤ cy ∧ W.heap.size + 1 + 1 ≤ cf) := Lib.hid (by have := HZ2.out; omega)
 have HBW3 : Hid (Below W.heap.size W W3) := Lib.hid ((HRD.out _ (HB2.out.trans (HB3.out.mono HB2.out.size))).1)
 have HCL3 : Hid (Cell1 W3 W.heap.size (.int .i64 (k : Int))) := Lib.hid ((HK1.out.ext HB2.out).ext HB3.out)
 have HCT3 : Hid (Cell1 W3 (W.heap.size + 1) (.slice av part.length cv)) := Lib.hid ((HT1.out.ext HB2.out).ext HB3.out)
 have HS3 := Lib.hid (HS.out.ext hE HBW3.out)
 clear hA h9 hL hW3 e14 e15 cyS cfS cyC cyN cfC
 have n0 := HCY.out.cell 0
 have n1 := HCY.out.cell 1
 simp at n0 n1
 cases kn
 ·simp only [if_neg (show ¬ (false = true) by decide)] at HSE
  have n2 := HCT3.out.cell
  go_upto_region 18 with fail
  refine wp_name (fun W4 hW4 => ?_)
  have HB4 : Hid (Below W3.heap.size W3 W4) := Lib.hid (by rw [hW4]; exact box_below' W3 _)
  have HCI : Hid (Cell1 W4 W3.heap.size (.int .i64 (part.length : Int))) := Lib.hid (by rw [hW4]; exact Cell1.new W3 _ _)
  have HBW4 : Hid (Below W.heap.size W W4) := Lib.hid (HBW3.out.trans (HB4.out.mono HBW3.out.size))
  have HZ4 : Hid (W4.heap.size = W3.heap.size + 1) := Lib.hid (by rw [hW4]; simp)
  clear hW4 n0 n1 n2
  have n3 := HCI.out.cell
  have n4 := (HCY.out.turned (Turned.of_below (X := fun _ => False) HB4.out) (fun e => e)).cell 0
  simp at n4
  have n5 := (HCL3.out.ext HB4.out).cell
  have HS4 := Lib.hid (HS.out.ext hE HBW4.out)
  have HAT4 := Lib.hid (HKP.out _ _ _ HAT.out (Turned.of_below HBW4.out))
  have HX4 : Hid (∀ q, K.X t q → E.Free q ∧ q < W4.heap.size) := Lib.hid (fun q hq => ⟨(HX.out q hq).1, by have := (HX.out q hq).2; have := HBW4.out.size; omega⟩)
  obtain ⟨L, hLp⟩ : ∃ X, part.length = X := ⟨_, rfl⟩
  have HLP2 := Lib.hid hLp
  by_cases hpn : part.length = N
  ·have hq : ((part.length : Int) == (N : Int)) = true := by simp [hpn]
   have hq2 : (part.length == N) = true := by simp [hpn]
   have HNX := Lib.hid (HNF.out HKN.out (by rw [HN.out]; exact hpn) W4 (.slice none 0 0) t (HS4.out.same (fun s hs => by
    rw [← posS_full (by rw [HKK.out]; exact hk2), HN.out, ← hpn]; rfl)) (.inl ⟨rfl, rfl⟩) HAT4.out HX4.out)
   have n6 : W4.cell? ⟨E.cd, 0, none⟩ = some (.func (.func 52) #[] #[.pointer (some ⟨E.cx, 0, none⟩), .pointer (some ⟨E.cp, 0, none⟩), .pointer (some ⟨E.co, 0, none⟩), .pointer (some ⟨E.cm, 0, none⟩), .pointer (some ⟨E.cd, 0, none⟩)]) := HS4.out.cd.cell
   have hlen : (((w ++ [part]).length : Nat) : Int) = (k : Int) + 1 := by simp [HKK.out]
   rw [hlen] at HNX
   have HLN := Lib.hid hlen
   have hwk : IntKind.i64.wrap ((k : Int) + 1) = (k : Int) + 1 := IntWalk.i64_in _ (by omega)
   have HS2 : Hid (SS = settleS E.f (w ++ [part]) []) := Lib.hid (by rw [HSE.out, if_neg (by rw [HN.out]; omega)])
   clear hlen hLp
   go_wp2_with (go_at_call 52; refine HNX.out.mono ?_; rintro e w9 ⟨rfl, hq9⟩; have HQ9 := Lib.hid hq9; clear hq9)
   go_ret
   rw [HS2.out]
   exact ⟨rfl, HQ9.out.1.same (fun s hs => by rw [← posS_full (by rw [HKK.out]; exact hk2), HN.out, ← hpn]; rfl), (Turned.of_below HBW4.out).trans HQ9.out.2.1, HQ9.out.2.2⟩
  ·have hpl : part.length < N := by have := HPF.out; rw [HN.out] at this; omega
   have hq : ((part.length : Int) == (N : Int)) = false := by simp; omega
   have hq2 : (part.length == N) = false := by simp; omega
   obtain ⟨m', hm', hdd⟩ := HNM.out HKN.out (by rw [HN.out]; exact hpl)
   have n7 := HS4.out.cp.cell
   have n8 := HS4.out.co.cell
   unfold EnvW.PV at n7
   have HS2 : Hid (SS = (w, part)) := Lib.hid (by rw [HSE.out, if_pos (by rw [HN.out]; exact hpl)])
   have HPP := Lib.hid (HPC.out m' w part W4 t cy (W.heap.size + 1) W3.heap.size cf W.heap.size HSO.out (by rw [HKK.out]; exact hk2) HKN.out (by rw [HN.out]; exact hpl) HS4.out HAT4.out HX4.out
    ⟨.slice av part.length cv, HTK.out.turned hE (Turned.of_below (X := fun _ => False) HBW4.out) (fun q e => e.elim), ⟨⟨ai, ci', .slice ap NP cp', by rw [HN.out]; exact HCY.out.turned (Turned.of_below (X := fun _ => False) HB4.out) (fun e => e), by rw [HN.out] at HLI2 ⊢; exact HLI2.out.below (HBW4.out.mono HSZ.out.1) (Nat.le_refl _)⟩, HCT3.out.ext HB4.out, HCI.out, by rw [HFB.out]; exact HCF.out.ext HB4.out, by rw [HKK.out]; exact HCL3.out.ext HB4.out⟩⟩
    (HEA.out m' (by rw [HN.out]; exact hpl) hdd W4.heap.size cy (W.heap.size + 1) W3.heap.size cf W.heap.size (by have := HSZ.out; have := HBW4.out.size; omega)
     (by have h1 := HSZ.out; have h2 := HNU.out; have h3 := HBW4.out.size; have h4 := HCY.out.ltN; have h5 := HCF.out.lt; have h6 := HZ4.out; have h7 := HBW3.out.size; have h8 := HCT3.out.lt; omega)
     (fun q hq => ⟨(HX.out q hq).1, by have h1 := (HX.out q hq).2; have h2 := HNU.out; have h3 := HBW4.out.size; have h7 := HBW3.out.size; omega⟩)))
   rw [← hm', HKK.out] at HPP
   have HPP2 := Lib.hid HPP.out
   clear hdd hLp hm'
   rcases hpf with hpf | hpf
   ·rw [hpf] at n7
    have HP3 := HPP2.out
    rw [hpf] at HP3
    have HP4 := Lib.hid HP3
    clear HP3
    go_wp2_with (go_at_call 30; refine HP4.out.mono ?_; rintro e w9 ⟨rfl, hq9⟩; have HQ9 := Lib.hid hq9; clear hq9)
    go_ret
    rw [HS2.out]
    exact ⟨rfl, HQ9.out.1, (Turned.of_below HBW4.out).trans HQ9.out.2.1, HQ9.out.2.2⟩
   ·rw [hpf] at n7
    have HP3 := HPP2.out
    rw [hpf] at HP3
    have HP4 := Lib.hid HP3
    clear HP3
    go_wp2_with (go_at_call 34; refine HP4.out.mono ?_; rintro e w9 ⟨rfl, hq9⟩; have HQ9 := Lib.hid hq9; clear hq9)
    go_ret
    rw [HS2.out]
    exact ⟨rfl, HQ9.out.1, (Turned.of_below HBW4.out).trans HQ9.out.2.1, HQ9.out.2.2⟩
 ·have hp0 := HRW.out HKN.out
  subst hp0
  obtain ⟨P, hP⟩ : ∃ X, (lotAt E.f.lots w.length).perm = X := ⟨_, rfl⟩
  have HPE := Lib.hid hP
  obtain ⟨g1, g2, g3, g4, _⟩ := HLB.out
  obtain ⟨p1, p2, p3⟩ := permB_parts (g4 HKN.out)
  rw [hP] at p1 p2 p3 HNP HLP
  rw [HN.out] at p1 p2
  have HPR : Hid ((∀ j, j < N → 0 ≤ nth P j ∧ nth P j < N) ∧ ∀ i j, i < N → j < N → j ≠ i → nth P j ≠ nth P i) := Lib.hid ⟨fun j hj => p1 _ (nth_mem' (by omega)), fun i j hi hj hne e => hne (nth_injC p3 (by omega) (by omega) e)⟩
  have hN1 : 1 ≤ N := by
   rw [← HN.out]
   cases e : (lotAt E.f.lots w.length).ins with
   | nil => exact absurd e g1
   | cons x l => simp
  obtain rfl : NP = N := by rw [← HNP.out, p2]
  obtain ⟨bi, oi, c2, ⟨a2, e2, _, _, e3⟩, _, _, hci⟩ := HLI2.out
  obtain ⟨bp, op, c4, ⟨a4, e4, _, _, e5⟩, _, _, hcp⟩ := HLP.out
  rw [HN.out] at e2 e3 hci
  rw [p2] at e4 e5 hcp
  obtain ⟨rfl, rfl⟩ : ai = a2 ∧ ci' = c2 := by simpa using e2
  obtain ⟨rfl, rfl⟩ : ap = a4 ∧ cp' = c4 := by simpa using e4
  obtain rfl : ai = some ⟨bi, oi, none⟩ := by rcases e3 with h | h; exact h; omega
  obtain rfl : ap = some ⟨bp, op, none⟩ := by rcases e5 with h | h; exact h; omega
  have n2 := HCY.out.cell 2
  simp at n2
  have HRO : Hid (∀ wr, Turned (fun q => q = E.bm ∨ K.X t q) W3 wr → wr.cell? ⟨E.cm, 0, none⟩ = some (.func (.func 51) #[] #[.pointer (some ⟨E.co, 0, none⟩)]) ∧ wr.cell? ⟨cy, 0, none⟩ = some (.slice (some ⟨bi, oi, none⟩) NP ci') ∧ wr.cell? ⟨cy, 2, none⟩ = some (.slice (some ⟨bp, op, none⟩) NP cp') ∧ wr.cell? ⟨cf, 0, none⟩ = some (.int .i64 FB) ∧ Cell1 wr E.co (.map (some E.bm)) ∧
    wr.cell? ⟨E.cd, 0, none⟩ = some (.func (.func 52) #[] #[.pointer (some ⟨E.cx, 0, none⟩), .pointer (some ⟨E.cp, 0, none⟩), .pointer (some ⟨E.co, 0, none⟩), .pointer (some ⟨E.cm, 0, none⟩), .pointer (some ⟨E.cd, 0, none⟩)]) ∧ wr.cell? ⟨W.heap.size, 0, none⟩ = some (.int .i64 (k : Int)) ∧ ∀ i, i < NP → wr.cell? ⟨bi, oi + i, none⟩ = some (.int .i64 (nth (lotAt E.f.lots w.length).ins i)) ∧ wr.cell? ⟨bp, op + i, none⟩ = some (.int .i64 (nth P i))) := Lib.hid (fun wr ht => by
   have h1 := hE.o1; have h2 := hE.o2; have h3 := hE.o3; have x2 := hE.x2; have x3 := hE.x3; have x4 := hE.x4; have x5 := hE.x5
   obtain ⟨z1, z2, z3, z4⟩ := hE.ne
   have hs := HSZ.out
   have hnu := HNU.out
   have hsz3 := HBW3.out.size
   have hn : ∀ q, (q = E.bm ∨ K.X t q) → q < W.heap.size ∧ E.B ≤ q ∧ q ≠ E.cm ∧ q ≠ E.co ∧ q ≠ E.cd := fun q e => by
    rcases e with e | e
    ·omega
    ·obtain ⟨f1, f2⟩ := HX.out q e
     unfold EnvW.Free at f1
     omega
   have hcyt := HCY.out.turned ht (fun e => by have := (hn _ e).1; omega)
   have k0 := hcyt.cell 0
   have k2 := hcyt.cell 2
   simp at k0 k2
   refine ⟨(HS3.out.cm.turned ht (fun e => (hn _ e).2.2.1 rfl)).cell, k0, k2, (HCF.out.turned ht (fun e => by have := (hn _ e).1; omega)).cell, HS3.out.co.turned ht (fun e => (hn _ e).2.2.2.1 rfl), (HS3.out.cd.turned ht (fun e => (hn _ e).2.2.2.2 rfl)).cell, (HCL3.out.turned ht (fun e => by have := (hn _ e).1; omega)).cell, fun i hi => ?_⟩
   obtain ⟨b1, b2⟩ := hci i hi
   obtain ⟨b3, b4⟩ := hcp i hi
   exact ⟨(ht.cell (p := ⟨bi, oi + i, none⟩) (by show bi < _; omega) (fun e => by have : E.B ≤ bi := (hn _ e).2.1; omega)).trans ((HBW3.out.cell (p := ⟨bi, oi + i, none⟩) (by show bi < _; omega)).trans b2), (ht.cell (p := ⟨bp, op + i, none⟩) (by show bp < _; omega) (fun e => by have : E.B ≤ bp := (hn _ e).2.1; omega)).trans ((HBW3.out.cell (p := ⟨bp, op + i, none⟩) (by show bp < _; omega)).trans b4)⟩)
  have HM0 : Hid (OfMap W3 E.bm E.n (posR E.f w 0 P)) := Lib.hid (by rw [posS_zero]; exact HS3.out.mp)
  have HSR : Hid (∀ i, i < NP → StepM E.n (posR E.f w i P) (posR E.f w (i + 1) P) (nth (lotAt E.f.lots w.length).ins i) (FB + nth P i)) := Lib.hid (fun i hi => HST.out i (by rw [HN.out]; exact hi) P (fun j hj => (HPR.out.1 j (by omega)).1) (fun j hj => HPR.out.2 i j hi (by omega) (by omega)))
  have HSB2 : Hid (∀ i, i < NP → StepM E.n (posB E.f w i P) (posB E.f w (i + 1) P) (FB + nth P i) (nth (lotAt E.f.lots w.length).ins i)) := Lib.hid (fun i hi => HSB.out i (by rw [HN.out]; exact hi) P (fun j hj => (HPR.out.1 j (by rw [HN.out] at hj; exact hj)).1) (fun j hj hne => HPR.out.2 i j hi (by rw [HN.out] at hj; exact hj) hne))
  have HFU : Hid (∀ s, posR E.f w NP P s = posS E.f (w ++ [P]) [] s) := Lib.hid (fun s => by rw [← posS_full (by rw [HKK.out]; exact hk2), HN.out])
  have HBZ : Hid (posB E.f w 0 P = posR E.f w NP P) := Lib.hid (by rw [posB_zero, HN.out])
  have HBA : Hid (posB E.f w NP P = posS E.f w []) := Lib.hid (by rw [← HN.out]; exact posB_all _ _ _)
  have HS2 : Hid (SS = settleS E.f (w ++ [P]) []) := Lib.hid (by rw [HSE.out, if_pos rfl, HPE.out])
  have HNX := Lib.hid (HNK.out HKN.out)
  rw [HPE.out] at HNX
  have HBW30 : Hid (Turned (fun q => q = E.bm ∨ K.X t q) W W3) := Lib.hid (Turned.of_below HBW3.out)
  clear hP g1 g2 g3 g4 p1 p2 p3 e2 e3 e4 e5 hci hcp
  go_upto_region 6 with fail
  go_loopw [47] (fun i' wr => ∃ i : Nat, i ≤ NP ∧ i' = .int .i64 (i : Nat) ∧ Turned (fun q => q = E.bm) W3 wr ∧ OfMap wr E.bm E.n (posR E.f w i P)) (fun i' _ => NP - (intOf i').toNat)
  case atStart => exact ⟨0, by omega, rfl, Turned.refl _ _, HM0.out⟩
  case round =>
   obtain ⟨i, hi, rfl, ht, hm⟩ := hrel
   have HT := Lib.hid ht
   have HM := Lib.hid hm
   obtain ⟨k1, k2, k3, k4, k5, k6, k7, k8⟩ := HRO.out wr (ht.mono (fun q _ e => .inl e))
   have HCO := Lib.hid k5
   clear ht hm k5
   by_cases hil : i < NP
   ·obtain ⟨k9, k10⟩ := k8 i hil
    have HSI := Lib.hid (HSR.out i hil)
    obtain ⟨hy0, hy1⟩ := HPR.out.1 i hil
    obtain ⟨y, hy⟩ : ∃ X, nth P i = X := ⟨_, rfl⟩
    obtain ⟨x, hx⟩ : ∃ X, nth (lotAt E.f.lots w.length).ins i = X := ⟨_, rfl⟩
    rw [hy] at k10 HSI hy0 hy1
    rw [hx] at k9 HSI
    have hwj : IntKind.i64.wrap (FB + y) = FB + y := IntWalk.i64_in _ (by omega)
    clear k8 k6 k7 hy hx
    go_upto_region 8 with fail
    go_still_tail 9, (by kernel_rfl)
    change wpList _ _ _ _ _ wr.drew
    go_wp2_with (go_at_call 51; refine (move_step wr.drew E.co E.bm E.n _ _ x (FB + y) HCO.out HM.out (fun e => hE.ne.2.1 e.symm) HSI.out).mono ?_; rintro e W6 ⟨⟨vv, rfl⟩, hm6, ht6⟩; have HM6 := Lib.hid hm6; have HT6 := Lib.hid ht6; clear hm6 ht6)
    go_roundw
    case rel => exact ⟨i + 1, by omega, by go_num, HT.out.trans ((show Turned (fun q => q = E.bm) wr wr.drew from ⟨rfl, rfl, rfl, Nat.le_refl _, fun _ _ _ => rfl⟩).trans HT6.out), HM6.out⟩
    case measure => simp [intOf]; omega
   ·obtain rfl : NP = i := by omega
    obtain ⟨W5, hW5⟩ : ∃ X, wr = X := ⟨_, rfl⟩
    rw [hW5] at HT HM HCO k1 k2 k3 k4 k6 k7 ⊢
    clear hW5 k8
    have HT05 : Hid (Turned (fun q => q = E.bm) W W5) := Lib.hid ((Turned.of_below HBW3.out).trans HT.out)
    have HS5 : Hid (WalkS E (w ++ [P]) [] W5) := Lib.hid (HS3.out.moved hE (X := fun _ => False) (HT.out.mono (fun q _ e => .inl e)) (fun q e => e.elim) (HM.out.eq (fun s hs => HFU.out s)))
    have HDD := Lib.hid (HNX.out W5 (.slice none 0 0) t HS5.out (.inl ⟨rfl, rfl⟩) (HKP.out _ _ _ HAT.out HT05.out) (fun q hq => ⟨(HX.out q hq).1, by have := (HX.out q hq).2; have := HT05.out.size; omega⟩))
    have hlen : (((w ++ [P]).length : Nat) : Int) = (k : Int) + 1 := by simp [HKK.out]
    rw [hlen] at HDD
    have hwk : IntKind.i64.wrap ((k : Int) + 1) = (k : Int) + 1 := IntWalk.i64_in _ (by omega)
    rw [← HS2.out] at HDD
    obtain ⟨RB, hRB⟩ : ∃ X, K.res m t SS.1 SS.2 = X := ⟨_, rfl⟩
    have HRB := Lib.hid hRB
    rw [hRB] at HDD
    clear hlen hRB
    go_upto_region 11 with (go_at_call 52; refine HDD.out.mono ?_; rintro e W6 ⟨rfl, hq9⟩; have HQ9 := Lib.hid hq9; clear hq9)
    clear k1 k2 k3 k4 k6 k7
    have HT36 : Hid (Turned (fun q => q = E.bm ∨ K.X t q) W3 W6) := Lib.hid ((HT.out.mono (fun q _ e => .inl e)).trans HQ9.out.2.1)
    have HMB : Hid (OfMap W6 E.bm E.n (posB E.f w 0 P)) := Lib.hid (by rw [HBZ.out]; exact HQ9.out.1.mp.eq (fun s hs => (HFU.out s).symm))
    obtain ⟨k1, k2, k3, k4, k5, k6, k7, k8⟩ := HRO.out W6 HT36.out
    go_upto_region 12 with fail
    clear k1 k2 k3 k4 k5 k6 k7 k8
    go_loopw [70] (fun i' wr => ∃ i : Nat, i ≤ NP ∧ i' = .int .i64 (i : Nat) ∧ Turned (fun q => q = E.bm) W6 wr ∧ OfMap wr E.bm E.n (posB E.f w i P)) (fun i' _ => NP - (intOf i').toNat)
    case atStart => exact ⟨0, by omega, rfl, Turned.refl _ _, HMB.out⟩
    case round =>
     obtain ⟨i, hi2, rfl, ht, hm⟩ := hrel
     have HT7 := Lib.hid ht
     have HM7 := Lib.hid hm
     obtain ⟨k1, k2, k3, k4, k5, k6, k7, k8⟩ := HRO.out _ (HT36.out.trans (ht.mono (fun q _ e => .inl e)))
     have HCO := Lib.hid k5
     clear ht hm k5
     by_cases hil : i < NP
     ·obtain ⟨k9, k10⟩ := k8 i hil
      have HSI := Lib.hid (HSB2.out i hil)
      obtain ⟨hy0, hy1⟩ := HPR.out.1 i hil
      obtain ⟨y, hy⟩ : ∃ X, nth P i = X := ⟨_, rfl⟩
      obtain ⟨x, hx⟩ : ∃ X, nth (lotAt E.f.lots w.length).ins i = X := ⟨_, rfl⟩
      rw [hy] at k10 HSI hy0 hy1
      rw [hx] at k9 HSI
      have hwj : IntKind.i64.wrap (FB + y) = FB + y := IntWalk.i64_in _ (by omega)
      clear k8 k6 k7 hy hx
      go_upto_region 14 with fail
      go_still_tail 9, (by kernel_rfl)
      obtain ⟨W7, hW7⟩ : ∃ X, wr = X := ⟨_, rfl⟩
      rw [hW7] at HT7 HM7 HCO k1 k2 k3 k4 k9 k10 ⊢
      change wpList _ _ _ _ _ W7.drew
      go_wp2_with (go_at_call 51; refine (move_step W7.drew E.co E.bm E.n _ _ (FB + y) x HCO.out HM7.out (fun e => hE.ne.2.1 e.symm) HSI.out).mono ?_; rintro e W8 ⟨⟨vv, rfl⟩, hm6, ht6⟩; have HM8 := Lib.hid hm6; have HT8 := Lib.hid ht6; clear hm6 ht6)
      go_roundw
      case rel => exact ⟨i + 1, by omega, by go_num, HT7.out.trans ((show Turned (fun q => q = E.bm) W7 W7.drew from ⟨rfl, rfl, rfl, Nat.le_refl _, fun _ _ _ => rfl⟩).trans HT8.out), HM8.out⟩
      case measure => simp [intOf]; omega
     ·obtain rfl : NP = i := by omega
      go_wp2
      go_ret
      rw [HRB.out]
      have htf : Turned (fun q => q = E.bm ∨ K.X t q) W3 _ := HT36.out.trans (HT7.out.mono (fun q _ e => .inl e))
      refine ⟨rfl, HS3.out.moved hE htf (fun q e => (HX.out q e).1) (by rw [← HBA.out]; exact HM7.out), HBW30.out.trans htf, HKD.out _ _ _ _ _ _ HQ9.out.2.2 HT7.out⟩
end Go.Proofs.YteiaeaciaglmgaaGreat
namespace Go.Proofs.YteiaeaciaglmgaaGreat
open Go.RowKit
attribute [local go_sem] run_store_func
theorem decide_all (E : EnvW) (hE : E.Ok) (K : Client E) (hpf : E.pf = 30 ∨ E.pf = 34) (hce : EndC E K) (hcl : PartC E K) (hX0 : ∀ t q, K.X0 q → K.X t q) (hc : checkE E.f = 0) :
  ∀ (m k : Nat) (w : List (List Int)) (part : List Int), StOk E.f w part → undS E.f w part ≤ m → E.f.lots.length - w.length = k → DecideAt E K m w part := by
 intro m
 induction m using Nat.strongRecOn with
 | _ m ihm =>
  intro k
  induction k with
  | zero =>
   intro w part hso hu hk
   have hw : w.length = E.f.lots.length := by have := hso.len; omega
   have hp : part = [] := by
    have := hso.fit
    rw [lotAt_out (by omega)] at this
    exact List.eq_nil_of_length_eq_zero (by simpa using this)
   subst hp
   exact decide_end E hE K hpf hce m w hso hw
  | succ k ihk =>
   intro w part hso hu hk
   have hlt : w.length < E.f.lots.length := by omega
   refine decide_lot E hE K hpf hcl hX0 hc m w part hso hlt (fun hkn => ?_) (fun hkn hp => ?_) (fun hkn hp => ?_)
   ·have hp := hso.known hkn
    subst hp
    refine ihk _ _ (hso.nextK hlt hkn) ?_ (by simp; omega)
    have e := und_app (f := E.f) (w := w) (p := (lotAt E.f.lots w.length).perm) hlt
    rw [if_pos hkn] at e
    unfold undS at hu ⊢
    simp only [List.length_nil] at hu ⊢
    omega
   ·refine ihk _ _ (hso.nextU hlt hkn hp) ?_ (by simp; omega)
    have e := und_app (f := E.f) (w := w) (p := part) hlt
    rw [if_neg (by simp [hkn])] at e
    unfold undS at hu ⊢
    simp only [List.length_nil] at hu ⊢
    omega
   ·have e := und_app (f := E.f) (w := w) (p := part) hlt
    rw [if_neg (by simp [hkn])] at e
    obtain ⟨m', rfl⟩ : ∃ m', m = m' + 1 := ⟨m - 1, by unfold undS at hu; omega⟩
    refine ⟨m', rfl, fun i hi hh => ihm m' (by omega) (k + 1) w _ (hso.more hkn hp hi hh) ?_ hk⟩
    unfold undS at hu ⊢
    simp only [List.length_append, List.length_singleton]
    omega
set_option maxHeartbeats 4000000 in
set_option maxRecDepth 100000 in
/-- explain.walk, for a family of clients -/
theorem walk_any (B : Nat) (w : World) (vs vl : Value) (f : Flow) (hf : IsFlow B w vs vl f) (hB : B ≤ w.heap.size) (hc : checkE f = 0) (pf : Nat) (p1 p2 p3 p4 : Value) (hpf : pf = 30 ∨ pf = 34)
  (KF : ∀ E : EnvW, Client E) (tF : ∀ E : EnvW, (KF E).T) (RES : Bool) (Post : World → Prop)
  (hK : ∀ (E : EnvW) (W : World), E.Ok → E.B = B → E.f = f → E.vl = vl → E.pf = pf → E.p1 = p1 → E.p2 = p2 → E.p3 = p3 → E.p4 = p4 → w.heap.size ≤ E.cp → Below w.heap.size w W →
   EndC E (KF E) ∧ PartC E (KF E) ∧ (∀ t q, (KF E).X0 q → (KF E).X t q) ∧ (KF E).At (tF E) W ∧ (∀ q, (KF E).X (tF E) q → B ≤ q ∧ q < w.heap.size) ∧ (KF E).res (undM f f.lots.length) (tF E) (settleS f [] []).1 (settleS f [] []).2 = RES ∧
   ∀ W', Turned (fun q => q = E.bm ∨ (KF E).X (tF E) q) W W' → (KF E).Dn (undM f f.lots.length) (tF E) (settleS f [] []).1 (settleS f [] []).2 W' → Post W') :
  Calls Tryz.prog 29 #[.agg #[vs, vl], .func (.func pf) #[] #[p1, p2, p3, p4]] w fun e W' => e = .returned (.bool RES) ∧ Post W' := by
 have HF := Lib.hid hf
 have HKK := Lib.hid hK
 obtain ⟨rfl, ⟨hs1, hs2⟩, hl⟩ := hf
 obtain ⟨b, off, cap, ⟨a, rfl, hcap, hmax, ha⟩, hlen, hcx⟩ := hl
 obtain ⟨h0, h64, hl2, hb5, hlo⟩ := checkE_ok hc
 have hmm := @run_makeMap Tryz.prog
 have hmf := @run_makeFunc_any Tryz.prog
 obtain ⟨n, hn⟩ : ∃ n, f.senders.toNat = n := ⟨_, rfl⟩
 have HN := Lib.hid hn
 have hsn : f.senders = (n : Int) := by omega
 have HSN := Lib.hid hsn
 clear ha hcx hK hn
 rw [hsn]
 have hn64 : n ≤ 64 := by omega
 clear hsn
 go_enter Tryz.func29, Tryz.ntmps29
 go_upto_region 1 with fail
 refine wp_name (fun W1 hW1 => ?_)
 have HX1 : Hid (Box W1 w.heap.size #[.int .i64 (n : Int), .slice a f.lots.length cap]) := Lib.hid (by rw [hW1]; exact (Box.new w #[.int .i64 (n : Int), .slice a f.lots.length cap] 24).alloc _)
 have HW1 : Hid (Below w.heap.size w W1) := Lib.hid (by rw [hW1]; exact (box_below' w _).trans ((box_below' _ _).mono (by simp)))
 have HP1 : Hid (Cell1 W1 (w.heap.size + 1) (.func (.func pf) #[] #[p1, p2, p3, p4])) := Lib.hid (by
  rw [hW1]
  have h := Cell1.new (w.alloc (.cells #[.int .i64 (n : Int), .slice a f.lots.length cap] 24)) (.func (.func pf) #[] #[p1, p2, p3, p4]) 72
  rw [World.size_alloc] at h
  exact h)
 have HZ1 : Hid (W1.heap.size = w.heap.size + 1 + 1) := Lib.hid (by rw [hW1]; simp)
 clear hW1
 have x1 := HX1.out.2
 have HNL := Lib.hid (newLots_any B W1 _ _ f (HF.out.below HW1.out hB) (Nat.le_trans hB HW1.out.size) hc)
 rw [HSN.out] at HNL
 go_upto_region 3 with (go_at_call 24; refine HNL.out.mono ?_; rintro e W3 ⟨q0, rfl, hlots, hb3⟩; have HLO := Lib.hid hlots; have HB13 := Lib.hid hb3; clear hlots hb3)
 refine wp_name (fun W5 hW5 => ?_)
 have HBX5 : Hid (Below W3.heap.size W3 W5) := Lib.hid (by rw [hW5]; exact (((box_below' W3 _).alloc (by simp) _).alloc (by simp; omega) _))
 have HCX : Hid (Cell1 W5 W3.heap.size (.pointer (some ⟨q0, 0, none⟩))) := Lib.hid (by rw [hW5]; exact ((Cell1.new W3 _ _).alloc _).alloc _)
 have HCA : Hid (Cell1 W5 (W3.heap.size + 1 + 1) (.map (some (W3.heap.size + 1)))) := Lib.hid (by
  rw [hW5]
  have h := Cell1.new ((W3.alloc (.cells #[.pointer (some ⟨q0, 0, none⟩)] 55)).alloc (.map #[] 0)) (.map (some (W3.heap.size + 1))) 57
  simp only [World.size_alloc] at h
  exact h)
 have HM5 : Hid (IntMap W5 (W3.heap.size + 1) []) := Lib.hid (by
  rw [hW5]
  have h := IntMap.made (W3.alloc (.cells #[.pointer (some ⟨q0, 0, none⟩)] 55))
  rw [World.size_alloc] at h
  exact h.alloc _)
 have HZ5 : Hid (W5.heap.size = W3.heap.size + 1 + 1 + 1) := Lib.hid (by rw [hW5]; simp)
 have HLO5 := Lib.hid (HLO.out.ext HBX5.out)
 have HW3 : Hid (Below w.heap.size w W3) := Lib.hid (HW1.out.trans (HB13.out.mono HW1.out.size))
 have HW5 : Hid (Below w.heap.size w W5) := Lib.hid (HW3.out.trans (HBX5.out.mono HW3.out.size))
 have HP5 := Lib.hid ((HP1.out.ext HB13.out).ext HBX5.out)
 have HX5 := Lib.hid ((HX1.out.ext HB13.out).ext HBX5.out)
 have x5 := HX5.out.2
 have HNUM : Hid (w.heap.size + 1 < W1.heap.size ∧ W1.heap.size ≤ W3.heap.size) := Lib.hid ⟨HP1.out.lt, HB13.out.size⟩
 obtain ⟨s3, hs3⟩ : ∃ x, W3.heap.size = x := ⟨_, rfl⟩
 rw [hs3] at HCX HCA HM5 HZ5 HLO5 HNUM ⊢
 clear hW5 hs3 HLO HBX5 HB13 HX1 x1
 go_upto_region 4 with fail
 clear x5
 go_loopw [15] (fun i' wr => ∃ (i : Nat) (al : AL), i ≤ n ∧ i' = .int .i64 (i : Nat) ∧ Turned (fun q => q = s3 + 1) W5 wr ∧ IntMap wr (s3 + 1) al ∧ Sat i (fun s => (s : Int)) al) (fun i' _ => n - (intOf i').toNat)
 case atStart => exact ⟨0, [], by omega, rfl, Turned.refl _ _, HM5.out, Sat.nil _⟩
 case round =>
  obtain ⟨i, al, hi, rfl, ht, hm, hsat⟩ := hrel
  have HT := Lib.hid ht
  have HM := Lib.hid hm
  have HSA := Lib.hid hsat
  have hnu := HNUM.out
  have c3 := (HCA.out.turned ht (by omega)).cell
  clear ht hm hsat
  by_cases hil : i < n
  ·have HS2 := Lib.hid (HSA.out.more (fun s hs => by show (s : Int) ≠ (i : Int); omega))
   go_wp2_with (at_mapUpdate; refine wpList_update_ints (x := (i : Int)) (v := .int .i64 (i : Int)) rfl _ _ _ rfl Tryz.underlying57 Tryz.underlying3 rfl HM.out rfl rfl ?_; intro w8 hs8 hg8 hz8; have HS8 := Lib.hid hs8; have HG8 := Lib.hid hg8; clear hs8 hg8 hz8)
   go_roundw
   case rel => exact ⟨i + 1, _, by omega, by go_num, HT.out.trans (Turned.of_grown HG8.out (fun q e => by simpa using e.symm)), HS8.out, HS2.out⟩
   case measure => simp [intOf]; omega
  ·obtain rfl : i = n := by omega
   obtain ⟨W6, hW6⟩ : ∃ x, wr = x := ⟨_, rfl⟩
   rw [hW6] at HT HM ⊢
   have HLO6 := Lib.hid (HLO5.out.turned HT.out (fun q a1 a2 e => by omega))
   have HCX6 := Lib.hid (HCX.out.turned HT.out (by omega))
   have HCA6 := Lib.hid (HCA.out.turned HT.out (by omega))
   have HP6 := Lib.hid (HP5.out.turned HT.out (by omega))
   have HW6 : Hid (Below w.heap.size w W6) := Lib.hid (HW5.out.trans (HT.out.below HW5.out.size (fun q hq e => by omega)))
   have HZ6 : Hid (s3 + 1 + 1 + 1 ≤ W6.heap.size) := Lib.hid (by have := HT.out.size; have := HZ5.out; omega)
   clear hW6 hnu c3
   go_upto_region 11 with fail
   refine wp_name (fun W8 hW8 => ?_)
   have HB8 : Hid (Below W6.heap.size W6 W8) := Lib.hid (by rw [hW8]; exact (box_below' W6 _).alloc (by simp) _)
   have HCM : Hid (Cell1 W8 W6.heap.size (.func (.func 51) #[] #[.pointer (some ⟨s3 + 1 + 1, 0, none⟩)])) := Lib.hid (by rw [hW8]; exact (Cell1.new W6 _ _).alloc _)
   have HCD : Hid (Cell1 W8 (W6.heap.size + 1) (.func (.func 52) #[] #[.pointer (some ⟨s3, 0, none⟩), .pointer (some ⟨w.heap.size + 1, 0, none⟩), .pointer (some ⟨s3 + 1 + 1, 0, none⟩), .pointer (some ⟨W6.heap.size, 0, none⟩), .pointer (some ⟨W6.heap.size + 1, 0, none⟩)])) := Lib.hid (by
    rw [hW8]
    have h := Cell1.new (W6.alloc (.cells #[.func (.func 51) #[] #[.pointer (some ⟨s3 + 1 + 1, 0, none⟩)]] 92)) (.func (.func 52) #[] #[.pointer (some ⟨s3, 0, none⟩), .pointer (some ⟨w.heap.size + 1, 0, none⟩), .pointer (some ⟨s3 + 1 + 1, 0, none⟩), .pointer (some ⟨W6.heap.size, 0, none⟩), .pointer (some ⟨W6.heap.size + 1, 0, none⟩)]) 93
    rw [World.size_alloc] at h
    exact h)
   have HZ8 : Hid (W8.heap.size = W6.heap.size + 1 + 1) := Lib.hid (by rw [hW8]; simp)
   clear hW8
   have hnu := HNUM.out
   have hz6 := HZ6.out
   have hz8 := HZ8.out
   have hz1 := HZ1.out
   have HWB8 : Hid (Below w.heap.size w W8) := Lib.hid (HW6.out.trans (HB8.out.mono HW6.out.size))
   obtain ⟨E, hEE⟩ : ∃ E : EnvW, E = ⟨B, W8.heap.size, W1.heap.size, s3, q0, s3, w.heap.size + 1, s3 + 1 + 1, s3 + 1, W6.heap.size, W6.heap.size + 1, pf, p1, p2, p3, p4, .slice a f.lots.length cap, f⟩ := ⟨_, rfl⟩
   have hE : E.Ok := by
    subst hEE
    exact ⟨by show B ≤ w.heap.size + 1; omega, by show w.heap.size + 1 < W1.heap.size; omega, by show W1.heap.size ≤ s3; omega, ⟨by show s3 ≤ s3; omega, by show s3 < W8.heap.size; omega⟩, ⟨by show s3 ≤ s3 + 1 + 1; omega, by show s3 + 1 + 1 < W8.heap.size; omega⟩, ⟨by show s3 ≤ s3 + 1; omega, by show s3 + 1 < W8.heap.size; omega⟩, ⟨by show s3 ≤ W6.heap.size; omega, by show W6.heap.size < W8.heap.size; omega⟩, ⟨by show s3 ≤ W6.heap.size + 1; omega, by show W6.heap.size + 1 < W8.heap.size; omega⟩,
     ⟨by show s3 + 1 ≠ s3; omega, by show s3 + 1 ≠ s3 + 1 + 1; omega, by show s3 + 1 ≠ W6.heap.size; omega, by show s3 + 1 ≠ W6.heap.size + 1; omega⟩⟩
   obtain ⟨y1, y2, y3, y4, y5, y6, y7⟩ := HKK.out E W8 hE (by subst hEE; rfl) (by subst hEE; rfl) (by subst hEE; rfl) (by subst hEE; rfl) (by subst hEE; rfl) (by subst hEE; rfl) (by subst hEE; rfl) (by subst hEE; rfl) (by subst hEE; show w.heap.size ≤ w.heap.size + 1; omega) HWB8.out
   have hS : WalkS E [] [] W8 := by
    subst hEE
    exact ⟨HLO6.out.ext HB8.out, (HF.out.below HWB8.out hB).2.2, HCX6.out.ext HB8.out, HP6.out.ext HB8.out, HCA6.out.ext HB8.out, HCM.out, HCD.out, ⟨al, HM.out.ext HB8.out, by
     show Sat f.senders.toNat _ al
     rw [HN.out]
     exact HSA.out.eq (fun s hs => by
      rw [← posS_zero f [] []]
      unfold posR
      rw [mv_zero]
      exact (pos_zero f [] s).symm)⟩, Nat.le_refl _⟩
   have hfe : E.f = f := by subst hEE; rfl
   have hda := decide_all E hE (KF E) (by subst hEE; exact hpf) y1 y2 y3 (by rw [hfe]; exact hc) (undM f f.lots.length) f.lots.length [] [] (by rw [hfe]; exact StOk.start f) (by rw [hfe]; unfold undS; simp) (by rw [hfe]; simp) W8 (.slice none 0 0) (tF E) hS (.inl ⟨rfl, rfl⟩) y4 (fun q hq => ⟨.inl (by
    have h := y5 q hq
    subst hEE
    exact ⟨h.1, by show q < W1.heap.size; omega, by show q ≠ w.heap.size + 1; omega⟩), by have := y5 q hq; omega⟩)
   rw [hfe, y6] at hda
   have HY7 := Lib.hid y7
   have hcs : E.cx = s3 ∧ E.cp = w.heap.size + 1 ∧ E.co = s3 + 1 + 1 ∧ E.cm = W6.heap.size ∧ E.cd = W6.heap.size + 1 := by subst hEE; exact ⟨rfl, rfl, rfl, rfl, rfl⟩
   obtain ⟨z1, z2, z3, z4, z5⟩ := hcs
   rw [z1, z2, z3, z4, z5] at hda
   have HDA := Lib.hid hda
   have n1 := HCD.out.cell
   clear hda hS y1 y2 y3 y4 y5 y6 y7 hE hfe z1 z2 z3 z4 z5 hnu hz6 hz8 hz1 hEE
   go_wp2_with (go_at_call 52; refine HDA.out.mono ?_; rintro e w9 ⟨rfl, hq9⟩; have HQ9 := Lib.hid hq9; clear hq9)
   go_ret
   exact ⟨rfl, HY7.out _ HQ9.out.2.1 HQ9.out.2.2⟩
end Go.Proofs.YteiaeaciaglmgaaGreat
namespace Go.Proofs.YteiaeaciaglmgaaGreat
open Go.RowKit
theorem settle_settled {f : Flow} {w : List (List Int)} {part : List Int} (h : w.length = f.lots.length ∨ w.length < f.lots.length ∧ (lotAt f.lots w.length).known = false ∧ part.length < (lotAt f.lots w.length).ins.length) : settleS f w part = (w, part) := by
 rcases h with h | ⟨h1, h2, h3⟩
 ·exact settle_end h
 ·rw [settle_lot h1, h2, if_neg (by decide), if_pos h3]
/-- a cell of four values that is a denial -/
def DenC (B : Nat) (W : World) (q : Nat) (d : Den) : Prop := ∃ y0 y1 y2 y3, CellsN W q #[y0, y1, y2, y3] ∧ IsDen B W [y0, y1, y2, y3] d
theorem DenC.turned {B : Nat} {W W' : World} {q : Nat} {d : Den} (h : DenC B W q d) {X : Nat → Prop} (ht : Turned X W W') (hq : ¬ X q) (hB : B ≤ W.heap.size) (hX : ∀ k, k < B → ¬ X k) : DenC B W' q d := by
 obtain ⟨y0, y1, y2, y3, h1, h2⟩ := h
 exact ⟨y0, y1, y2, y3, h1.turned ht hq, h2.below (ht.below hB hX) (Nat.le_refl _)⟩
set_option maxHeartbeats 4000000 in
set_option maxRecDepth 100000 in
/-- explain.Refutes: ready -/
theorem refready_any (B : Nat) (W : World) (qm qn : Nat) (p : Den) (i : Nat) (hm : DenC B W qm p) (hn : ∃ y0 y1 y2 y3, CellsN W qn #[y0, y1, y2, y3]) (hi : i < p.kids.length) (hne : qm ≠ qn) (hB : B ≤ qn) :
  Calls Tryz.prog 35 #[.int .i64 (i : Int), .pointer (some ⟨qm, 0, none⟩), .pointer (some ⟨qn, 0, none⟩)] W fun e W' => e = .returned (.bool true) ∧ DenC B W' qn (denAt p.kids i) ∧ Turned (fun q => q = qn) W W' := by
 obtain ⟨y0, y1, y2, y3, h1, h2⟩ := hm
 obtain ⟨z0, z1, z2, z3, h3⟩ := hn
 obtain ⟨ak, ck, e, _, _, _, hkl, bk, ok, hak, hkk⟩ := h2.form
 simp only [List.cons.injEq, and_true] at e
 obtain ⟨rfl, rfl, rfl, rfl⟩ := e
 obtain ⟨hb, cs, hc, hd⟩ := hkk i hi
 obtain rfl : ak = some ⟨bk, ok, none⟩ := by rcases hak with h | h; exact h; omega
 obtain ⟨ak2, ck2, rfl, _⟩ := id hd.form
 have HD := Lib.hid hd
 have c0 := hc 0 _ rfl
 have c1 := hc 1 _ rfl
 have c2 := hc 2 _ rfl
 have c3 := hc 3 _ rfl
 have m2 := h1.cell 2
 simp at m2
 have f0 := h3.free 0
 have f1 := h3.free 1
 have f2 := h3.free 2
 have f3 := h3.free 3
 have n0 := h3.cell 0
 have n1 := h3.cell 1
 have n2 := h3.cell 2
 have n3 := h3.cell 3
 simp at n0 n1 n2 n3
 have H3 := Lib.hid h3
 have hlt := h3.ltN
 obtain ⟨D, hD⟩ : ∃ D, denAt p.kids i = D := ⟨_, rfl⟩
 rw [hD] at HD c0 c1 c2 c3 ⊢
 obtain ⟨nk, hnk⟩ : ∃ n, p.kids.length = n := ⟨_, rfl⟩
 rw [hnk] at m2 hi
 simp only [Nat.add_zero] at c0
 clear hc hd hkk hak h1 h2 h3 hD hnk hkl
 go_enter Tryz.func35, Tryz.ntmps35
 go_wp2
 go_ret
 have hg := fun (w : World) k v => Turned.of_grown (X := fun q => q = qn) (grown_setCell w ⟨qn, k, none⟩ v) (fun q e => by simpa using e.symm)
 have ht := (((hg W 0 (.int .i64 D.lot)).trans (hg _ 1 (.int .i64 D.inn))).trans (hg _ 2 (.slice ak2 D.kids.length ck2))).trans (hg _ 3 (.int .i64 D.sender))
 refine ⟨rfl, ⟨_, _, _, _, (((H3.out.set 0 _).set 1 _).set 2 _).set 3 _, ?_⟩, ht⟩
 exact HD.out.keep (fun q hq => ht.block q (by omega) (fun e => by omega))
end Go.Proofs.YteiaeaciaglmgaaGreat
namespace Go.Proofs.YteiaeaciaglmgaaGreat
open Go.RowKit
set_option maxHeartbeats 4000000 in
set_option maxRecDepth 100000 in
/-- explain.Deny: ready -/
theorem denready_any (W : World) (qm qt b o bk ok nk ck : Nat) (v : Value) (i : Nat) (hm : Cell1 W qm (.pointer (some ⟨b, o, none⟩))) (hk : W.cell? ⟨b, o + 2, none⟩ = some (.slice (some ⟨bk, ok, none⟩) nk ck)) (ht : Cell1 W qt v) (hi : i < nk) :
  Calls Tryz.prog 32 #[.int .i64 (i : Int), .pointer (some ⟨qm, 0, none⟩), .pointer (some ⟨qt, 0, none⟩)] W fun e W' => e = .returned (.bool true) ∧ Cell1 W' qt (.pointer (some ⟨bk, ok + i * 4, none⟩)) ∧ Turned (fun q => q = qt) W W' := by
 have c0 := hm.cell
 have c1 := ht.cell
 have f1 := ht.free
 have HT := Lib.hid ht
 clear hm ht
 go_enter Tryz.func32, Tryz.ntmps32
 go_wp2
 go_ret
 exact ⟨rfl, HT.out.set _, Turned.of_grown (grown_setCell W ⟨qt, 0, none⟩ _) (fun q e => by simpa using e.symm)⟩
end Go.Proofs.YteiaeaciaglmgaaGreat
namespace Go.Proofs.YteiaeaciaglmgaaGreat
open Go.RowKit
set_option maxHeartbeats 8000000 in
set_option maxRecDepth 100000 in
theorem refleaf_any (B C1 D1 : Nat) (W : World) (cn cF cX cA q1 bm : Nat) (vl va lotV inV eachV : Value) (f : Flow) (zs : List Int) (p : Den) (P : Nat → Int) (hd : DenC B W cn p) (hF : Box W cF #[.int .i64 f.senders, vl]) (hX : Cell1 W cX (.pointer (some ⟨q1, 0, none⟩))) (hA : Cell1 W cA va) (hlo : LotsAt C1 D1 W q1 vl f) (hc : checkE f = 0) (hz : IsInts B W va zs)
  (hzl : (zs.length : Int) = f.senders) (hof : OfMap W bm f.senders.toNat P) (hB : B ≤ W.heap.size) (hl : p.lot = -1) :
  Calls Tryz.prog 34 #[.map (some bm), lotV, inV, eachV, .pointer (some ⟨cn, 0, none⟩), .pointer (some ⟨cF, 0, none⟩), .pointer (some ⟨cX, 0, none⟩), .pointer (some ⟨cA, 0, none⟩)] W fun e W' =>
   e = .returned (.bool (decide (p.inn = 0) && (decide (p.kids.length = 0) && (decide (0 ≤ p.sender) && (decide (p.sender < f.senders) && !leadE f (P p.sender.toNat) (nth zs p.sender.toNat)))))) ∧ Below W.heap.size W W' := by
 obtain ⟨y0, y1, y2, y3, h1, h2⟩ := hd
 obtain ⟨ak, ck, e, _, _, hs64, hkl, bk, ok, hak, hkk⟩ := h2.form
 simp only [List.cons.injEq, and_true] at e
 obtain ⟨rfl, rfl, rfl, rfl⟩ := e
 rw [hl] at h1
 obtain ⟨l, hl1, hl2⟩ := hof
 have hbm := hl1.lt
 have HL := Lib.hid hl1
 have HS := Lib.hid hl2
 have HLO := Lib.hid hlo
 obtain ⟨bz, oz, cz, ⟨az, rfl, hz1, hz2, hz3⟩, hz4, hz5, hzc⟩ := hz
 have HZ3 := Lib.hid hz3
 have HZC := Lib.hid hzc
 have HZL := Lib.hid hzl
 have HF := Lib.hid hF
 have HX := Lib.hid hX
 have HA := Lib.hid hA
 have HBW := Lib.hid hB
 have m0 := h1.cell 0
 have m1 := h1.cell 1
 have m2 := h1.cell 2
 have m3 := h1.cell 3
 simp at m0 m1 m2 m3
 obtain ⟨RR, hRR⟩ : ∃ x, (decide (p.inn = 0) && (decide (p.kids.length = 0) && (decide (0 ≤ p.sender) && (decide (p.sender < f.senders) && !leadE f (P p.sender.toNat) (nth zs p.sender.toNat))))) = x := ⟨_, rfl⟩
 rw [hRR]
 have HRR := Lib.hid hRR
 clear hRR
 obtain ⟨i, hi⟩ : ∃ x, p.inn = x := ⟨_, rfl⟩
 obtain ⟨s, hs⟩ : ∃ x, p.sender = x := ⟨_, rfl⟩
 obtain ⟨nk, hnk⟩ : ∃ x, p.kids.length = x := ⟨_, rfl⟩
 rw [hi] at HRR m1
 rw [hs] at HRR m3 hs64
 rw [hnk] at HRR m2 hkl
 clear h1 h2 hl1 hl2 hlo hz3 hzc hzl hF hX hA hB hi hs hnk hak hkk hl
 go_enter Tryz.func34, Tryz.ntmps34
 go_upto_region 2 with fail
 refine wp_name (fun W1 hW1 => ?_)
 have HB1 : Hid (Below W.heap.size W W1) := Lib.hid (by rw [hW1]; exact box_below' W _)
 have HD1 : Hid (CellsN W1 W.heap.size #[.int .i64 (-1), .int .i64 i, .slice ak nk ck, .int .i64 s]) := Lib.hid (by rw [hW1]; exact CellsN.new W _ _)
 clear hW1 m0 m1 m2 m3
 have n0 := HD1.out.cell 0
 have n1 := HD1.out.cell 1
 have n2 := HD1.out.cell 2
 have n3 := HD1.out.cell 3
 simp at n0 n1 n2 n3
 have n4 := (HF.out.ext HB1.out).2 0
 simp at n4
 by_cases hi0 : i = 0
 ·subst hi0
  by_cases hk0 : nk = 0
  ·subst hk0
   by_cases hs0 : 0 ≤ s
   ·have hs01 : decide (s < 0) = false := decide_eq_false (by omega)
    by_cases hss : s < f.senders
    ·have hss1 : decide (f.senders ≤ s) = false := decide_eq_false (by omega)
     obtain ⟨sn, rfl⟩ : ∃ n : Nat, s = n := ⟨s.toNat, by omega⟩
     have HRB : Hid (RR = !leadE f (P sn) (nth zs sn)) := Lib.hid (by rw [← HRR.out]; simp [hss])
     have HSN : Hid (sn < f.senders.toNat) := Lib.hid (by omega)
     clear HRR
     go_upto_region 5 with fail
     have HL1 := Lib.hid (HL.out.ext HB1.out)
     obtain ⟨n, hn⟩ : ∃ n, f.senders.toNat = n := ⟨_, rfl⟩
     have HN := Lib.hid hn
     rw [hn] at HS HSN
     clear hn hs0 hs01 hss hss1 n0 n1 n2 n4
     go_wp2_with (refine wpList_range_ints rfl (.tmp 41) rfl Tryz.underlying57 rfl HL1.out ?_; intro w9 hit9 hb9 hz9; have HIT9 := Lib.hid hit9; have HB9 := Lib.hid hb9; clear hit9 hb9 hz9)
     obtain ⟨r, hr⟩ : ∃ x, W1.heap.size = x := ⟨_, rfl⟩
     have HR := Lib.hid hr
     have hsz1 := HB1.out.size
     rw [hr] at HIT9 hsz1 ⊢
     rw [hr] at HB9
     have hne : r ≠ bm := by omega
     clear hr
     simp only [Act.put, List.setIfInBounds_toArray, List.set_cons_zero, List.set_cons_succ]
     go_loopw [] (fun W' => ∃ left : AL, MapIter W' bm r l left ∧ (∀ p ∈ left, p ∈ l) ∧ Below r W1 W' ∧ ((P sn, Value.int .i64 (sn : Int)) ∉ left → leadE f (P sn) (nth zs sn) = false)) (fun W' => iterLeft W' bm r)
     case atStart => exact ⟨l, HIT9.out, fun p hp => hp, HB9.out, fun hn => absurd ((HS.out.2 _ _).2 ⟨sn, HSN.out, rfl, rfl⟩) hn⟩
     case round =>
      obtain ⟨left, hit, hsub, hbl, hdone⟩ := hrel
      have HIT := Lib.hid hit
      have HLEFT := Lib.hid hit.left
      have HSUB := Lib.hid hsub
      have HBL := Lib.hid hbl
      have HDO := Lib.hid hdone
      clear hit hsub hbl hdone HIT9 HB9
      by_cases hlf : left = []
      ·go_wp2_with (refine wpList_next_doneA rfl (.tmp 42) rfl rfl HIT.out hne hlf ?_)
       go_ret
       exact ⟨by rw [HRB.out, HDO.out (by rw [hlf]; simp)]; rfl, HB1.out.trans ((HR.out ▸ HBL.out).mono HB1.out.size)⟩
      ·go_upto_region 8 with (refine wpList_next_moreA rfl (.tmp 42) rfl rfl HIT.out hne hlf ?_; intro A x v B' w3 hl2 hit3 hg3 hz3 hen; have HIT3 := Lib.hid hit3; have HG3 := Lib.hid hg3; have HL2 := Lib.hid hl2; obtain ⟨s, hs, hps, rfl⟩ := (HS.out.2 x v).1 (HSUB.out _ (by rw [hl2]; simp)); have HPS := Lib.hid hps; clear hit3 hg3 hz3 hl2 hps)
       have hl2 := HL2.out
       have hps := HPS.out
       have HB3 : Hid (Below r W1 w3) := Lib.hid (HBL.out.grown HG3.out (by have := HBL.out.size; rw [← HR.out]; exact this) (fun q hq => by cases hq; exact Nat.le_refl _))
       have HLN : Hid ((A ++ B').length < left.length) := Lib.hid (by rw [hl2]; simp)
       have HLF3 := Lib.hid HIT3.out.left
       have HSUB2 : Hid (∀ p ∈ A ++ B', p ∈ l) := Lib.hid fun p hp => HSUB.out p (by
        rw [hl2]
        rcases List.mem_append.1 hp with h | h
        ·exact List.mem_append_left _ h
        ·exact List.mem_append_right _ (List.mem_cons_of_mem _ h))
       have HIN2 : Hid (sn ≠ s → (P sn, Value.int .i64 (sn : Int)) ∉ A ++ B' → (P sn, Value.int .i64 (sn : Int)) ∉ left) := Lib.hid fun hjs hn h => hn (by
        rw [hl2] at h
        rcases List.mem_append.1 h with h | h
        ·exact List.mem_append_left _ h
        ·rcases List.mem_cons.1 h with h | h
         ·simp only [Prod.mk.injEq, Value.int.injEq] at h
          exact absurd (by have := h.2; omega) hjs
         ·exact List.mem_append_right _ h)
       have hbs : s < zs.length := by have := HZL.out; have := HN.out; omega
       have hn3 := (HD1.out.cell 3)
       simp at hn3
       have c0 := (HB3.out.cell (p := ⟨W.heap.size, 3, none⟩) (by have := HD1.out.ltN; rw [← HR.out]; exact this)).trans hn3
       clear hl2 n3 hn3
       by_cases hes : s = sn
       ·subst hes
        obtain rfl : az = some ⟨bz, oz, none⟩ := by rcases HZ3.out with h | h; exact h; omega
        have hzq := HZC.out s hbs
        have hbW := HBW.out
        have HB03 : Hid (Below W.heap.size W w3) := Lib.hid (HB1.out.trans ((HR.out ▸ HB3.out).mono HB1.out.size))
        have c1 := (HB03.out.cell (p := ⟨bz, oz + s, none⟩) (by have := hzq.1; show bz < _; omega)).trans hzq.2
        have c2 := (HX.out.ext HB03.out).cell
        have c3 := (HA.out.ext HB03.out).cell
        have HLOT := Lib.hid (HLO.out.ext HB03.out)
        obtain ⟨LE, hLE⟩ : ∃ y, leadE f (P s) (nth zs s) = y := ⟨_, rfl⟩
        have HLE := Lib.hid hLE
        rw [hps] at hLE
        have HLE2 := Lib.hid hLE
        obtain ⟨xz, hxz⟩ : ∃ y, nth zs s = y := ⟨_, rfl⟩
        rw [hxz] at c1
        rw [hxz] at HLE2
        rw [HLE.out] at HRB
        have HLD := Lib.hid (fun n => leads_any C1 D1 (w3.drewN n) q1 vl f x xz (HLOT.out.ext (below_drewN (Below.refl _ _) n)) hc)
        rw [HLE2.out] at HLD
        clear hps hLE hxz hzq hbW
        have heq : ((s : Int) == (s : Int)) = true := by simp
        cases LE
        ·go_wp2
         go_quiet ((go_at_call 25; exact Calls.quiet_of_same (HLD.out _)))
         go_wp2
         go_roundw
         case rel => exact ⟨A ++ B', HIT3.out, HSUB2.out, below_drewN HB3.out _, fun _ => HLE.out⟩
         case measure => exact Nat.lt_of_le_of_lt (Nat.le_of_eq HLF3.out) (by rw [HLEFT.out]; exact HLN.out)
        ·go_wp2
         go_quiet ((go_at_call 25; exact Calls.quiet_of_same (HLD.out _)))
         go_wp2
         go_ret
         exact ⟨by rw [HRB.out]; rfl, HB03.out.trans ((below_drewN (Below.refl _ _) _).mono HB03.out.size)⟩
       ·have heq : ((s : Int) == (sn : Int)) = false := by simp; omega
        clear hps
        go_wp2
        go_quiet (fail)
        go_wp2
        go_roundw
        case rel => exact ⟨A ++ B', HIT3.out, HSUB2.out, below_drewN HB3.out _, fun hn => HDO.out (HIN2.out (fun e => hes e.symm) hn)⟩
        case measure => exact Nat.lt_of_le_of_lt (Nat.le_of_eq HLF3.out) (by rw [HLEFT.out]; exact HLN.out)
    ·have hss1 : decide (f.senders ≤ s) = true := decide_eq_true (by omega)
     have HRF : Hid (RR = false) := Lib.hid (by rw [← HRR.out, decide_eq_false hss]; simp)
     go_wp2
     go_ret
     exact ⟨by rw [HRF.out]; rfl, HB1.out⟩
   ·have hs01 : decide (s < 0) = true := decide_eq_true (by omega)
    have HRF : Hid (RR = false) := Lib.hid (by rw [← HRR.out, decide_eq_false hs0]; simp)
    go_wp2
    go_ret
    exact ⟨by rw [HRF.out]; rfl, HB1.out⟩
  ·have hk01 : decide ((0 : Int) < (nk : Int)) = true := decide_eq_true (by omega)
   have HRF : Hid (RR = false) := Lib.hid (by rw [← HRR.out, decide_eq_false hk0]; simp)
   go_wp2
   go_ret
   exact ⟨by rw [HRF.out]; rfl, HB1.out⟩
 ·have hi01 : (i != 0) = true := by simpa using hi0
  have HRF : Hid (RR = false) := Lib.hid (by rw [← HRR.out, decide_eq_false hi0]; rfl)
  go_wp2
  go_ret
  exact ⟨by rw [HRF.out]; rfl, HB1.out⟩
end Go.Proofs.YteiaeaciaglmgaaGreat
