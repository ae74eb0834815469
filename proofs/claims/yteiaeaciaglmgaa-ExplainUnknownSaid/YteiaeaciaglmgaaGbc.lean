/- Layers EW3 EA1 EW4 EA2 EW8 EA3 EW9 EA4 EW11 EW13 EA5 EW14 EW15 EW16 EW17 EW18 EX1 EA6 EA7 EX2 EX3: the walks and the plain laws under the last text, merged and cut to what it uses; nothing is assumed. -/
import Derived.Deep.CutRange
import Derived.WideKeyEntry
import Derived.Test.YteiaeaciaglmgaaGbb
set_option linter.unusedVariables false
set_option linter.unusedSimpArgs false
namespace Go.Proofs.Yteiaeaciaglmgaa
open Go.RowKit
theorem src_one {w : World} {g c : Nat} {u : Value} (hg : w.cell? ⟨g, 0, none⟩ = some u) (h1 : u.oneCell' = true) : Src w 1 (.slice (some ⟨g, 0, none⟩) 1 c) 1 [u] := by
 refine ⟨_, c, rfl, rfl, fun j u' hj => ?_, by simpa using h1⟩
 match j, hj with
 | 0, hj => simp at hj; subst hj; exact ⟨_, rfl, by simpa [Addr.add] using hg⟩
end Go.Proofs.Yteiaeaciaglmgaa
set_option linter.unusedVariables false
set_option linter.unusedSimpArgs false
namespace Go.Proofs.Yteiaeaciaglmgaa
open Go.RowKit
theorem OwnLots.isLots {C : Nat} {w : World} {v : Value} {ls : List Lot} (h : OwnLots C w v ls) (hC : C ≤ w.heap.size) : IsLots w.heap.size w v ls := by
 obtain ⟨vals, ⟨hl, h1⟩, h2, h3, h4⟩ := h
 rcases h1 with ⟨rfl, hn⟩ | ⟨g, cap, cur, rfl, hb, hg, hnc, hcm, hcs, htk⟩
 ·exact ⟨0, 0, 0, ⟨none, by rw [hn], by omega, by omega, Or.inr hn⟩, h3, fun j hj => by omega⟩
 ·refine ⟨g, 0, cap, ⟨some ⟨g, 0, none⟩, rfl, hnc, by unfold maxLen at hcm; omega, Or.inl rfl⟩, h3, fun j hj => ⟨(v3At vals j).i, (v3At vals j).k, (v3At vals j).p, ?_⟩⟩
  have hgl := (Array.getElem?_eq_some_iff.1 hg).1
  have key : ∀ q u, q < ls.length * 3 → (flat vals)[q]? = some u → w.cell? ⟨g, 0 + q, none⟩ = some u := by
   intro q u hq hu
   simp only [World.cell?, hg, Nat.zero_add]
   have : (cur.toList.take (ls.length * 3))[q]? = (flat vals)[q]? := by rw [htk]
   rw [List.getElem?_take, if_pos hq, hu] at this
   simpa using this
  have hf := flat_get vals j (by omega)
  exact ⟨⟨hgl, key _ _ (by omega) hf.1⟩, ⟨hgl, key _ _ (by omega) hf.2.1⟩, ⟨hgl, key _ _ (by omega) hf.2.2⟩, (h4 j hj).mono hC⟩
theorem OwnLots.ltX {C : Nat} {w : World} {v : Value} {ls : List Lot} (h : OwnLots C w v ls) : ∀ k, v.ownBlock = some k → C ≤ k ∧ k < w.heap.size := by
 obtain ⟨vals, h1, _⟩ := h
 exact fun k hk => h1.lt k hk
theorem OwnLots.setX {C p : Nat} {w : World} {v : Value} {ls : List Lot} (h : OwnLots C w v ls) (hC : C ≤ w.heap.size) (hp : C ≤ p) (hne : v.ownBlock ≠ some p) (i : Nat) (u : Value) : OwnLots C (w.setCell ⟨p, i, none⟩ u) v ls :=
 h.kept (grown_setCell w ⟨p, i, none⟩ u) (fun k hk => by cases hk; exact hp) hC (.inr hne)
theorem below_drewN {B : Nat} {w w' : World} (h : Below B w w') (n : Nat) : Below B w (w'.drewN n) := h.trans (Drew.below ⟨n, rfl⟩ B)
/-- fb: the lot is made, fa: it is appended, fs: the list is stored; w0: the world at the function's start, w1: at the region's -/
structure ApL (C c2 : Nat) (w0 w1 : World) (s vL : Value) (ls : List Lot) (x : Lot) (lc : Array Value) (fb fa fs : Bool) (xb xa : Value) (w : World) : Prop where
 hb : Below C w0 w
 hC : C ≤ c2 ∧ c2 < w1.heap.size ∧ C ≤ w1.heap.size
 sz : w1.heap.size ≤ w.heap.size
 ho : ∀ k, k < w1.heap.size → k ≠ c2 → vL.ownBlock ≠ some k → w.heap[k]? = w1.heap[k]?
 nv : vL.ownBlock ≠ some c2 ∧ ∀ k, vL.ownBlock = some k → k < w1.heap.size
 hv : fa = false → OwnLots C w vL ls
 hq : fb = true → fa = false → ∃ q, xb = .slice (some ⟨q, 0, none⟩) 1 1 ∧ w1.heap.size ≤ q ∧ CellsN w q lc
 ha : fa = true → OwnLots C w xa (ls ++ [x]) ∧ xa.ownBlock ≠ some c2 ∧ (xa.ownBlock = vL.ownBlock ∨ ∃ q, xa.ownBlock = some q ∧ w1.heap.size ≤ q)
 hc : fs = false → CellsN w c2 #[s, vL]
 he : fs = true → CellsN w c2 #[s, xa]
 c1 : fs = true → fa = true
 c0 : fa = true → fb = true
section
variable {C c2 : Nat} {w0 w1 : World} {s vL : Value} {ls : List Lot} {x : Lot} {lc : Array Value} {fb fa fs : Bool} {xb xa : Value} {w : World}
theorem ApL.start (hb : Below C w0 w1) (hC : C ≤ c2) (h2 : C ≤ w1.heap.size) (hv : OwnLots C w1 vL ls) (nv : vL.ownBlock ≠ some c2) (hc : CellsN w1 c2 #[s, vL]) (n : Nat) : ApL C c2 w0 w1 s vL ls x lc false false false xb xa (w1.drewN n) :=
 {hb := hb.trans (below_drewN (Below.refl _ _) n), hC := ⟨hC, hc.lt, h2⟩, sz := Nat.le_refl _, ho := (fun k _ _ _ => rfl), nv := ⟨nv, fun k hk => (hv.ltX k hk).2⟩,
  hv := (fun _ => hv), hq := (fun h => by cases h), ha := (fun h => by cases h), hc := (fun _ => hc), he := (fun h => by cases h), c1 := (fun h => by cases h), c0 := (fun h => by cases h) }
variable (h : ApL C c2 w0 w1 s vL ls x lc fb fa fs xb xa w)
include h
theorem ApL.sb (hi : fb = false) {xb' : Value} (t : TypeId) (he : xb' = .slice (some ⟨w.heap.size, 0, none⟩) 1 1) : ApL C c2 w0 w1 s vL ls x lc true fa fs xb' xa (w.alloc (.cells lc t)) := by
 have hfa : fa = false := by
  cases e : fa with
  | false => rfl
  | true => have := h.c0 e; rw [hi] at this; cases this
 have hfs : fs = false := by
  cases e : fs with
  | false => rfl
  | true => have := h.c1 e; rw [hfa] at this; cases this
 have hz := Nat.le_trans h.hC.2.2 h.sz
 subst hfa hfs
 exact {
  hb := h.hb.alloc hz _, hC := h.hC, sz := (by have := h.sz; simp; omega), ho := (fun k hk h1 h2 => ((box_below' w (.cells lc t)).block k (by have := h.sz; omega)).trans (h.ho k hk h1 h2)), nv := h.nv,
  hv := (fun _ => (h.hv rfl).allocX hz _), hq := (fun _ _ => ⟨_, he, h.sz, CellsN.new w lc t⟩), ha := (fun e => by cases e), hc := (fun _ => (h.hc rfl).alloc _), he := (fun e => by cases e), c1 := (fun e => by cases e), c0 := (fun e => by cases e) }
theorem ApL.sa (hi : fa = false) (hfb : fb = true) {v' : Value} {w' : World} (ho : OwnLots C w' v' (ls ++ [x])) (hg : w.grownBy w' vL.ownBlock) (hat : v'.ownBlock = vL.ownBlock ∨ v'.ownBlock = some w.heap.size) : ApL C c2 w0 w1 s vL ls x lc fb true fs xb v' w' := by
 have hfs : fs = false := by
  cases e : fs with
  | false => rfl
  | true => have := h.c1 e; rw [hi] at this; cases this
 have hz := Nat.le_trans h.hC.2.2 h.sz
 have hlt := h.hv hi |>.ltX
 subst hi hfs
 have hne : v'.ownBlock ≠ some c2 := by
  rcases hat with e | e
  ·rw [e]; exact h.nv.1
  ·rw [e]; intro e'; have := h.hC.2.1; have := h.sz; simp at e'; omega
 exact {
  hb := h.hb.grown hg hz (fun k hk => (hlt k hk).1), hC := h.hC, sz := Nat.le_trans h.sz hg.size, ho := (fun k hk h1 h2 => (hg.block k (by have := h.sz; omega) (fun e => h2 e.symm)).trans (h.ho k hk h1 h2)), nv := h.nv,
  hv := (fun e => by cases e), hq := (fun _ e => by cases e), ha := (fun _ => ⟨ho, hne, by rcases hat with e | e; exact .inl e; exact .inr ⟨_, e, h.sz⟩⟩), hc := (fun _ => (h.hc rfl).grown hg (fun e => h.nv.1 e.symm)), he := (fun e => by cases e), c1 := (fun e => by cases e), c0 := (fun _ => hfb) }
theorem ApL.ss (hi : fs = false) (hfa : fa = true) : ApL C c2 w0 w1 s vL ls x lc fb fa true xb xa (w.setCell ⟨c2, 1, none⟩ xa) := by
 have hz := Nat.le_trans h.hC.2.2 h.sz
 subst hi hfa
 obtain ⟨h1, h2, h3⟩ := h.ha rfl
 have hg := grown_setCell w ⟨c2, 1, none⟩ xa
 exact {
  hb := h.hb.setCell (p := ⟨c2, 1, none⟩) h.hC.1 _, hC := h.hC, sz := Nat.le_trans h.sz hg.size, ho := (fun k hk q1 q2 => (hg.block k (by have := h.sz; omega) (fun e => q1 (by simpa using e))).trans (h.ho k hk q1 q2)), nv := h.nv,
  hv := (fun e => by cases e), hq := (fun _ e => by cases e), ha := (fun _ => ⟨h1.setX hz h.hC.1 h2 1 _, h2, h3⟩), hc := (fun e => by cases e), he := (fun _ => by simpa using (h.hc rfl).set 1 xa), c1 := (fun _ => rfl), c0 := h.c0 }
/-- what other blocks hold -/
theorem ApL.cell {k i : Nat} (hk : k < w1.heap.size) (h1 : k ≠ c2) (h2 : vL.ownBlock ≠ some k) : w.cell? ⟨k, i, none⟩ = w1.cell? ⟨k, i, none⟩ := by
 simp only [World.cell?, h.ho k hk h1 h2]
end
end Go.Proofs.Yteiaeaciaglmgaa
set_option linter.unusedVariables false
set_option linter.unusedSimpArgs false
namespace Go.Proofs.Yteiaeaciaglmgaa
open Go.RowKit
theorem srcLots_one {C g c : Nat} {w : World} {vi vk vp : Value} {d : Lot} (h1 : w.cell? ⟨g, 0, none⟩ = some vi) (h2 : w.cell? ⟨g, 1, none⟩ = some vk) (h3 : w.cell? ⟨g, 2, none⟩ = some vp) (hd : IsLot C w vi vk vp d) : SrcLots C w (.slice (some ⟨g, 0, none⟩) 1 c) [d] := by
 refine ⟨[⟨vi, vk, vp⟩], ⟨_, c, rfl, rfl, fun q u hu => ?_, ?_⟩, rfl, fun j hj => ?_⟩
 ·refine ⟨_, rfl, ?_⟩
  rw [add3]
  simp only [flat] at hu
  match q, hu with
  | 0, hu => simp at hu; subst hu; simpa using h1
  | 1, hu => simp at hu; subst hu; simpa using h2
  | 2, hu => simp at hu; subst hu; simpa using h3
 ·have := hd.one
  simp [flat, this.1, this.2.1, this.2.2]
 ·have : j = 0 := by simpa using hj
  subst this
  exact hd
theorem wp_name {P : Program} {Q : Exit → Act → World → Prop} {c : Code} {a : Act} {w : World} (h : ∀ W, W = w → Code.wp P c Q a W) : Code.wp P c Q a w := h w rfl
set_option maxHeartbeats 2000000 in
/-- frankingref29.SameWay -/
theorem sameway29_any (B B' : Nat) (w : World) (v v' : Value) (xs ys : List (List Int)) (hv : IsMat B w v xs) (hv' : IsMat B' w v' ys) :
  Calls Try.prog 15 #[v, v'] w fun e w' => e = .returned (.bool (sameM xs ys)) ∧ Drew w w' := by
 obtain ⟨b, off, cap, ⟨a, rfl, hcap, hmax, ha⟩, hlen, hc⟩ := hv
 obtain ⟨b', off', cap', ⟨a', rfl, hcap', hmax', ha'⟩, hlen', hc'⟩ := hv'
 have HC := Lib.hid hc
 have HC' := Lib.hid hc'
 have HA := Lib.hid ha
 have HA' := Lib.hid ha'
 clear hc hc' ha ha'
 by_cases hl : xs.length = ys.length
 ·have hne2 : ((xs.length : Int) != (ys.length : Int)) = false := by rw [hl]; simp
  have HL := Lib.hid hl
  clear hl
  go_enter Try.func15, Try.ntmps15
  go_wp2
  go_loopw [5] (fun i wr => ∃ k : Nat, k ≤ xs.length ∧ i = .int .i64 k ∧ sameMTo xs ys k = true ∧ Drew w wr) (fun i _ => xs.length - (intOf i).toNat)
  case atStart => exact ⟨0, by omega, rfl, rfl, Drew.refl _⟩
  case round =>
   obtain ⟨k, hk, rfl, he, hd⟩ := hrel
   have HE := Lib.hid he
   have HD := Lib.hid hd
   clear he hd
   by_cases h1 : k < xs.length
   ·have h2 : k < ys.length := by rw [← HL.out]; exact h1
    obtain rfl : a = some ⟨b, off, none⟩ := by rcases HA.out with h | h; exact h; omega
    obtain rfl : a' = some ⟨b', off', none⟩ := by rcases HA'.out with h | h; exact h; omega
    obtain ⟨r1, q1, i1⟩ := HC.out k h1
    obtain ⟨r2, q2, i2⟩ := HC'.out k h2
    have c1 := (HD.out.cell _).trans q1.2
    have c2 := (HD.out.cell _).trans q2.2
    have HCC := Lib.hid (fun m => same_any _ (wr.drewN m) r1 r2 (rowAt xs k) (rowAt ys k) ((i1.drew (HD.out.drewN m)).mono (Nat.le_max_left B B')) ((i2.drew (HD.out.drewN m)).mono (Nat.le_max_right B B')))
    have HS : Hid (sameMTo xs ys (k + 1) = (sameMTo xs ys k && sameB (rowAt xs k) (rowAt ys k))) := Lib.hid rfl
    obtain ⟨a1, n1, k1, rfl⟩ : ∃ a n c, r1 = .slice a n c := by obtain ⟨_, _, c, ⟨a, e, _⟩, _⟩ := i1; exact ⟨a, _, c, e⟩
    obtain ⟨a2, n2, k2, rfl⟩ : ∃ a n c, r2 = .slice a n c := by obtain ⟨_, _, c, ⟨a, e, _⟩, _⟩ := i2; exact ⟨a, _, c, e⟩
    clear q1 q2 i1 i2
    go_wp2
    go_quiet ((go_at_call 25; exact Calls.quiet_of (HCC.out _)))
    cases hq : sameB (rowAt xs k) (rowAt ys k)
    ·have HR := Lib.hid (sameM_not hq)
     clear hq
     go_wp2
     go_ret
     exact ⟨by rw [HR.out]; rfl, HD.out.drewN _⟩
    ·have HR : Hid (sameMTo xs ys (k + 1) = true) := Lib.hid (by rw [HS.out, HE.out, hq]; rfl)
     clear hq
     go_wp2
     go_roundw
     case rel => exact ⟨k + 1, by omega, by go_num, HR.out, HD.out.drewN _⟩
     case measure => simp [intOf]; omega
   ·have HR : Hid (sameM xs ys = true) := Lib.hid (sameM_all HL.out (by rw [show xs.length = k by omega]; exact HE.out))
    go_wp2
    go_ret
    exact ⟨by rw [HR.out]; rfl, HD.out⟩
 ·have HR : Hid (sameM xs ys = false) := Lib.hid (sameM_len hl)
  have hne2 : ((xs.length : Int) != (ys.length : Int)) = true := by simp; omega
  clear hl
  go_enter Try.func15, Try.ntmps15
  go_wp2
  go_ret
  exact ⟨by rw [HR.out]; rfl, Drew.refl _⟩
set_option maxHeartbeats 4000000 in
set_option maxRecDepth 100000 in
/-- frankingref29.Along -/
theorem along29_any (B : Nat) (w : World) (vs vl vw : Value) (f : Flow) (W : List (List Int)) (hf : IsFlow B w vs vl f) (hw : IsMat B w vw W) (hB : B ≤ w.heap.size) (hl : f.lots.length ≤ W.length) (h2 : f.lots.length ≤ 2000) :
  Calls Try.prog 24 #[.agg #[vs, vl], vw] w fun e w' => ∃ v, e = .returned (.agg #[.int .i64 f.senders, v]) ∧ IsLots w'.heap.size w' v (alongL f W f.lots.length) ∧ Below w.heap.size w w' := by
 obtain ⟨rfl, ⟨hs1, hs2⟩, hl'⟩ := hf
 obtain ⟨b, off, cap, ⟨a, rfl, hcap, hmax, ha⟩, hlen, hc⟩ := hl'
 obtain ⟨bw, ow, cw, ⟨aw, rfl, hcapw, hmaxw, haw⟩, hlenw, hcw⟩ := hw
 have HC := Lib.hid hc
 have HA := Lib.hid ha
 have HCW := Lib.hid hcw
 have HAW := Lib.hid haw
 have HLW := Lib.hid hl
 clear hc ha hcw haw
 go_enter Try.func24, Try.ntmps24
 go_wp2
 refine wp_name (fun W3 hW3 => ?_)
 have HX0 : Hid (Box W3 w.heap.size #[.int .i64 f.senders, .slice a f.lots.length cap]) := Lib.hid (by rw [hW3]; exact ((Box.new w #[.int .i64 f.senders, .slice a f.lots.length cap] 24).alloc _).alloc _)
 have HX1 : Hid (CellsN W3 (w.heap.size + 1) #[.int .i64 0, .slice none 0 0]) := Lib.hid (by
  rw [hW3]
  have h := CellsN.new (w.alloc (.cells #[.int .i64 f.senders, .slice a f.lots.length cap] 24)) #[.int .i64 0, .slice none 0 0] 24
  rw [World.size_alloc] at h
  exact h.alloc _)
 have HX2 : Hid (CellsN W3 (w.heap.size + 1 + 1) #[.int .i64 f.senders, .slice none 0 0]) := Lib.hid (by
  rw [hW3]
  have h := CellsN.new ((w.alloc (.cells #[.int .i64 f.senders, .slice a f.lots.length cap] 24)).alloc (.cells #[.int .i64 0, .slice none 0 0] 24)) #[.int .i64 f.senders, .slice none 0 0] 24
  simp only [World.size_alloc] at h
  exact h)
 have HB3 : Hid (Below w.heap.size w W3) := Lib.hid (by
  rw [hW3]
  exact (((Below.refl w.heap.size w).alloc (Nat.le_refl _) _).alloc (by simp) _).alloc (by simp; omega) _)
 clear hW3
 go_loopw [6] (fun i wr => ∃ k v, k ≤ f.lots.length ∧ i = .int .i64 (k : Int) ∧ OwnLots w.heap.size wr v (alongL f W k) ∧ v.ownBlock ≠ some w.heap.size ∧ v.ownBlock ≠ some (w.heap.size + 1) ∧ v.ownBlock ≠ some (w.heap.size + 1 + 1) ∧ Box wr w.heap.size #[.int .i64 f.senders, .slice a f.lots.length cap] ∧ CellsN wr (w.heap.size + 1) #[.int .i64 0, .slice none 0 0] ∧ CellsN wr (w.heap.size + 1 + 1) #[.int .i64 f.senders, v] ∧ Below w.heap.size w wr) (fun i _ => f.lots.length - (intOf i).toNat)
 case atStart => exact ⟨0, .slice none 0 0, by omega, rfl, OwnLots.nil _ _, by simp [Value.ownBlock], by simp [Value.ownBlock], by simp [Value.ownBlock], HX0.out, HX1.out, HX2.out, HB3.out⟩
 case round =>
  obtain ⟨k, v, hk, rfl, hv, n0, n1, n2, x0, x1, x2, hbr⟩ := hrel
  have HV := Lib.hid hv
  have HY0 := Lib.hid x0
  have HY1 := Lib.hid x1
  have HY2 := Lib.hid x2
  have HBR := Lib.hid hbr
  obtain ⟨z0, r0⟩ := x0
  clear hbr HX0 HX1 HX2
  by_cases hlt : k < f.lots.length
  ·obtain rfl : a = some ⟨b, off, none⟩ := by rcases HA.out with h | h; exact h; omega
   obtain rfl : aw = some ⟨bw, ow, none⟩ := by rcases HAW.out with h | h; exact h; omega
   have hkw : k < W.length := by omega
   obtain ⟨vi, vk, vp, q1, _, _, hlot⟩ := HC.out k hlt
   obtain ⟨hli, _, _⟩ := hlot
   obtain ⟨ai, ci, rfl⟩ := hli.form
   obtain ⟨vr, hr1, hr2⟩ := HCW.out k hkw
   obtain ⟨ar, cr, rfl⟩ := hr2.form
   obtain ⟨av, nv, cv, rfl⟩ : ∃ a n c, v = .slice a n c := by obtain ⟨a, c, e⟩ := hv.form; exact ⟨_, _, _, e⟩
   have HKB : Hid (∀ W', Below w.heap.size w W' → W'.cell? ⟨b, off + k * 3, none⟩ = some (.slice ai (lotAt f.lots k).ins.length ci) ∧ W'.cell? ⟨bw, ow + k, none⟩ = some (.slice ar (rowAt W k).length cr)) := Lib.hid fun W' hW => ⟨(q1.below hW hB).2, (hr1.below hW hB).2⟩
   have HLX : Hid (∀ W', Below w.heap.size w W' → IsLot w.heap.size W' (.slice ai (lotAt f.lots k).ins.length ci) (.bool true) (.slice ar (rowAt W k).length cr) ⟨(lotAt f.lots k).ins, true, rowAt W k⟩) := Lib.hid fun W' hW => ⟨(hli.below hW hB).mono hB, rfl, (hr2.below hW hB).mono hB⟩
   have HLL : Hid ((alongL f W k).length = k) := Lib.hid (alongL_len f W k)
   have HLS : Hid (alongL f W (k + 1) = alongL f W k ++ [⟨(lotAt f.lots k).ins, true, rowAt W k⟩]) := Lib.hid rfl
   obtain ⟨WA, rfl⟩ : ∃ W', W' = wr := ⟨_, rfl⟩
   clear q1 hr1 hr2 hli hv x1 x2
   go_upto_region 5 with fail
   obtain ⟨V, hV⟩ : ∃ V : List (Option Value), V = [some (.pointer (some ⟨w.heap.size + 1 + 1, 1, none⟩)), some (.slice av nv cv), some (.pointer (some ⟨w.heap.size, 1, none⟩)), some (.slice (some ⟨b, off, none⟩) f.lots.length cap), some (.int .i64 (k : Int)), some (.pointer (some ⟨b, off + k * 3, none⟩)), some (.pointer (some ⟨b, off + k * 3, none⟩)), some (.slice ai (lotAt f.lots k).ins.length ci), some (.slice (some ⟨bw, ow, none⟩) W.length cw), some (.int .i64 (k : Int)), some (.pointer (some ⟨bw, ow + k, none⟩)), some (.slice ar (rowAt W k).length cr), some (.agg #[.slice ai (lotAt f.lots k).ins.length ci, .bool true, .slice ar (rowAt W k).length cr]), none, none, some (.pointer (some ⟨w.heap.size + 1 + 1, 1, none⟩)), none] := ⟨_, rfl⟩
   have HVV := Lib.hid hV
   clear hV
   refine wp_region_V [some 17, some 18, some 19, some 20, some 21, some 22, some 23, some 24, some 25, some 26, some 27, some 28, some 29, some 30, some 31, some 32, none] (fun L w' xs => ValsAt V L xs ∧ (ApL w.heap.size (w.heap.size + 1 + 1) w WA (.int .i64 f.senders) (.slice av nv cv) (alongL f W k) ⟨(lotAt f.lots k).ins, true, rowAt W k⟩ #[.slice ai (lotAt f.lots k).ins.length ci, .bool true, .slice ar (rowAt W k).length cr] (L 13) (L 14) (L 16) (xs 13) (xs 14) w' ∧ (L 16 = true → L 1 = true ∧ L 14 = true))) (by kernel_rfl) (by kernel_rfl) (by rfl) (by rfl) (by rfl) ?_ ?_ ?_
   focus
    exact fun xs => ⟨ValsAt.none _ _, (by exact ApL.start HBR.out (by omega) HBR.out.size HV.out n2 HY2.out 1), (fun e => by cases e)⟩
   focus
    refine ⟨?_, ?_, ?_, ?_, ?_, ?_, ?_, ?_, ?_, ?_, ?_, ?_, ?_, ?_, ?_, ?_, ?_, trivial⟩
    all_goals
     intro L a' w' xs hi hd hf hJ K hK
     obtain ⟨hv, hA, h16⟩ := hJ
     have HF := Lib.hid hf
     have HVA := Lib.hid hv
     have HLI := Lib.hid hi
     clear hf hv hi
    focus
     clear hd
     obtain ⟨ρ, hρ⟩ : ∃ ρ, a'.eval = ρ := ⟨_, rfl⟩
     have hcst : ∀ v, ρ (.const v) = v := fun v => (congrFun hρ (.const v)).symm
     have l5 : ρ (.tmp 5) = .pointer (some ⟨w.heap.size + 1 + 1, 0, none⟩) := (congrFun hρ (.tmp 5)).symm.trans (HF.out.lo 5 rfl)
     rw [if_pos (by simp [Region.wanted])]
     unfold Oper.wp
     rw [hρ]
     clear hρ
     go_simp
     exact hK.out _ _ ⟨HVA.out.set (i := 0) (by rw [HVV.out]; rfl), (by simp only [updV_ne (xs := xs) (show (13 : Nat) ≠ 0 by decide), updV_ne (xs := xs) (show (14 : Nat) ≠ 0 by decide)]; exact hA), h16⟩
    focus
     obtain ⟨d0, _⟩ := hd
     obtain ⟨ρ, hρ⟩ : ∃ ρ, a'.eval = ρ := ⟨_, rfl⟩
     have hcst : ∀ v, ρ (.const v) = v := fun v => (congrFun hρ (.const v)).symm
     have v0 : ρ (.tmp 17) = .pointer (some ⟨w.heap.size + 1 + 1, 1, none⟩) := (congrFun hρ (.tmp 17)).symm.trans ((HF.out.ev 0 rfl d0).trans (HVA.out 0 _ (by rw [HVV.out]; rfl) d0))
     have hN : L 16 = false := by
      cases e : L 16 with
      | false => rfl
      | true => have := (h16 e).1; rw [HLI.out] at this; cases this
     have m1 := (hA.hc hN).cell 1
     simp at m1
     rw [if_pos (by simp [Region.wanted])]
     unfold Oper.wp
     rw [hρ]
     clear hρ
     go_simp
     exact hK.out _ _ ⟨HVA.out.set (i := 1) (by rw [HVV.out]; rfl), (by simp only [updV_ne (xs := xs) (show (13 : Nat) ≠ 1 by decide), updV_ne (xs := xs) (show (14 : Nat) ≠ 1 by decide)]; exact hA), (fun e => ⟨rfl, (h16 e).2⟩)⟩
    focus
     clear hd
     obtain ⟨ρ, hρ⟩ : ∃ ρ, a'.eval = ρ := ⟨_, rfl⟩
     have hcst : ∀ v, ρ (.const v) = v := fun v => (congrFun hρ (.const v)).symm
     have l2 : ρ (.tmp 2) = .pointer (some ⟨w.heap.size, 0, none⟩) := (congrFun hρ (.tmp 2)).symm.trans (HF.out.lo 2 rfl)
     rw [if_pos (by simp [Region.wanted])]
     unfold Oper.wp
     rw [hρ]
     clear hρ
     go_simp
     exact hK.out _ _ ⟨HVA.out.set (i := 2) (by rw [HVV.out]; rfl), (by simp only [updV_ne (xs := xs) (show (13 : Nat) ≠ 2 by decide), updV_ne (xs := xs) (show (14 : Nat) ≠ 2 by decide)]; exact hA), h16⟩
    focus
     obtain ⟨d2, _⟩ := hd
     obtain ⟨ρ, hρ⟩ : ∃ ρ, a'.eval = ρ := ⟨_, rfl⟩
     have hcst : ∀ v, ρ (.const v) = v := fun v => (congrFun hρ (.const v)).symm
     have v2 : ρ (.tmp 19) = .pointer (some ⟨w.heap.size, 1, none⟩) := (congrFun hρ (.tmp 19)).symm.trans ((HF.out.ev 2 rfl d2).trans (HVA.out 2 _ (by rw [HVV.out]; rfl) d2))
     have m1 := hA.cell (i := 1) z0 (by omega) n0
     have r1 := r0 1
     simp at r1
     rw [r1] at m1
     rw [if_pos (by simp [Region.wanted])]
     unfold Oper.wp
     rw [hρ]
     clear hρ
     go_simp
     exact hK.out _ _ ⟨HVA.out.set (i := 3) (by rw [HVV.out]; rfl), (by simp only [updV_ne (xs := xs) (show (13 : Nat) ≠ 3 by decide), updV_ne (xs := xs) (show (14 : Nat) ≠ 3 by decide)]; exact hA), h16⟩
    focus
     clear hd
     obtain ⟨ρ, hρ⟩ : ∃ ρ, a'.eval = ρ := ⟨_, rfl⟩
     have hcst : ∀ v, ρ (.const v) = v := fun v => (congrFun hρ (.const v)).symm
     have l6 : ρ (.tmp 6) = .int .i64 (k : Int) := (congrFun hρ (.tmp 6)).symm.trans (HF.out.lo 6 rfl)
     rw [if_pos (by simp [Region.wanted])]
     unfold Oper.wp
     rw [hρ]
     clear hρ
     go_simp
     exact hK.out _ _ ⟨HVA.out.set (i := 4) (by rw [HVV.out]; rfl), (by simp only [updV_ne (xs := xs) (show (13 : Nat) ≠ 4 by decide), updV_ne (xs := xs) (show (14 : Nat) ≠ 4 by decide)]; exact hA), h16⟩
    focus
     obtain ⟨d3, d4, _⟩ := hd
     obtain ⟨ρ, hρ⟩ : ∃ ρ, a'.eval = ρ := ⟨_, rfl⟩
     have hcst : ∀ v, ρ (.const v) = v := fun v => (congrFun hρ (.const v)).symm
     have v3 : ρ (.tmp 20) = .slice (some ⟨b, off, none⟩) f.lots.length cap := (congrFun hρ (.tmp 20)).symm.trans ((HF.out.ev 3 rfl d3).trans (HVA.out 3 _ (by rw [HVV.out]; rfl) d3))
     have v4 : ρ (.tmp 21) = .int .i64 (k : Int) := (congrFun hρ (.tmp 21)).symm.trans ((HF.out.ev 4 rfl d4).trans (HVA.out 4 _ (by rw [HVV.out]; rfl) d4))
     rw [if_pos (by simp [Region.wanted])]
     unfold Oper.wp
     rw [hρ]
     clear hρ
     go_simp
     exact hK.out _ _ ⟨HVA.out.set (i := 5) (by rw [HVV.out]; rfl), (by simp only [updV_ne (xs := xs) (show (13 : Nat) ≠ 5 by decide), updV_ne (xs := xs) (show (14 : Nat) ≠ 5 by decide)]; exact hA), h16⟩
    focus
     obtain ⟨d5, _⟩ := hd
     obtain ⟨ρ, hρ⟩ : ∃ ρ, a'.eval = ρ := ⟨_, rfl⟩
     have hcst : ∀ v, ρ (.const v) = v := fun v => (congrFun hρ (.const v)).symm
     have v5 : ρ (.tmp 22) = .pointer (some ⟨b, off + k * 3, none⟩) := (congrFun hρ (.tmp 22)).symm.trans ((HF.out.ev 5 rfl d5).trans (HVA.out 5 _ (by rw [HVV.out]; rfl) d5))
     rw [if_pos (by simp [Region.wanted])]
     unfold Oper.wp
     rw [hρ]
     clear hρ
     go_simp
     exact hK.out _ _ ⟨HVA.out.set (i := 6) (by rw [HVV.out]; rfl), (by simp only [updV_ne (xs := xs) (show (13 : Nat) ≠ 6 by decide), updV_ne (xs := xs) (show (14 : Nat) ≠ 6 by decide)]; exact hA), h16⟩
    focus
     obtain ⟨d6, _⟩ := hd
     obtain ⟨ρ, hρ⟩ : ∃ ρ, a'.eval = ρ := ⟨_, rfl⟩
     have hcst : ∀ v, ρ (.const v) = v := fun v => (congrFun hρ (.const v)).symm
     have v6 : ρ (.tmp 23) = .pointer (some ⟨b, off + k * 3, none⟩) := (congrFun hρ (.tmp 23)).symm.trans ((HF.out.ev 6 rfl d6).trans (HVA.out 6 _ (by rw [HVV.out]; rfl) d6))
     obtain ⟨k0, k1⟩ := HKB.out _ hA.hb
     rw [if_pos (by simp [Region.wanted])]
     unfold Oper.wp
     rw [hρ]
     clear hρ
     go_simp
     exact hK.out _ _ ⟨HVA.out.set (i := 7) (by rw [HVV.out]; rfl), (by simp only [updV_ne (xs := xs) (show (13 : Nat) ≠ 7 by decide), updV_ne (xs := xs) (show (14 : Nat) ≠ 7 by decide)]; exact hA), h16⟩
    focus
     clear hd
     obtain ⟨ρ, hρ⟩ : ∃ ρ, a'.eval = ρ := ⟨_, rfl⟩
     have hcst : ∀ v, ρ (.const v) = v := fun v => (congrFun hρ (.const v)).symm
     have l1 : ρ (.tmp 1) = .slice (some ⟨bw, ow, none⟩) W.length cw := (congrFun hρ (.tmp 1)).symm.trans (HF.out.lo 1 rfl)
     rw [if_pos (by simp [Region.wanted])]
     unfold Oper.wp
     rw [hρ]
     clear hρ
     go_simp
     exact hK.out _ _ ⟨HVA.out.set (i := 8) (by rw [HVV.out]; rfl), (by simp only [updV_ne (xs := xs) (show (13 : Nat) ≠ 8 by decide), updV_ne (xs := xs) (show (14 : Nat) ≠ 8 by decide)]; exact hA), h16⟩
    focus
     clear hd
     obtain ⟨ρ, hρ⟩ : ∃ ρ, a'.eval = ρ := ⟨_, rfl⟩
     have hcst : ∀ v, ρ (.const v) = v := fun v => (congrFun hρ (.const v)).symm
     have l6 : ρ (.tmp 6) = .int .i64 (k : Int) := (congrFun hρ (.tmp 6)).symm.trans (HF.out.lo 6 rfl)
     rw [if_pos (by simp [Region.wanted])]
     unfold Oper.wp
     rw [hρ]
     clear hρ
     go_simp
     exact hK.out _ _ ⟨HVA.out.set (i := 9) (by rw [HVV.out]; rfl), (by simp only [updV_ne (xs := xs) (show (13 : Nat) ≠ 9 by decide), updV_ne (xs := xs) (show (14 : Nat) ≠ 9 by decide)]; exact hA), h16⟩
    focus
     obtain ⟨d8, d9, _⟩ := hd
     obtain ⟨ρ, hρ⟩ : ∃ ρ, a'.eval = ρ := ⟨_, rfl⟩
     have hcst : ∀ v, ρ (.const v) = v := fun v => (congrFun hρ (.const v)).symm
     have v8 : ρ (.tmp 25) = .slice (some ⟨bw, ow, none⟩) W.length cw := (congrFun hρ (.tmp 25)).symm.trans ((HF.out.ev 8 rfl d8).trans (HVA.out 8 _ (by rw [HVV.out]; rfl) d8))
     have v9 : ρ (.tmp 26) = .int .i64 (k : Int) := (congrFun hρ (.tmp 26)).symm.trans ((HF.out.ev 9 rfl d9).trans (HVA.out 9 _ (by rw [HVV.out]; rfl) d9))
     rw [if_pos (by simp [Region.wanted])]
     unfold Oper.wp
     rw [hρ]
     clear hρ
     go_simp
     exact hK.out _ _ ⟨HVA.out.set (i := 10) (by rw [HVV.out]; rfl), (by simp only [updV_ne (xs := xs) (show (13 : Nat) ≠ 10 by decide), updV_ne (xs := xs) (show (14 : Nat) ≠ 10 by decide)]; exact hA), h16⟩
    focus
     obtain ⟨d10, _⟩ := hd
     obtain ⟨ρ, hρ⟩ : ∃ ρ, a'.eval = ρ := ⟨_, rfl⟩
     have hcst : ∀ v, ρ (.const v) = v := fun v => (congrFun hρ (.const v)).symm
     have v10 : ρ (.tmp 27) = .pointer (some ⟨bw, ow + k, none⟩) := (congrFun hρ (.tmp 27)).symm.trans ((HF.out.ev 10 rfl d10).trans (HVA.out 10 _ (by rw [HVV.out]; rfl) d10))
     obtain ⟨k0, k1⟩ := HKB.out _ hA.hb
     rw [if_pos (by simp [Region.wanted])]
     unfold Oper.wp
     rw [hρ]
     clear hρ
     go_simp
     exact hK.out _ _ ⟨HVA.out.set (i := 11) (by rw [HVV.out]; rfl), (by simp only [updV_ne (xs := xs) (show (13 : Nat) ≠ 11 by decide), updV_ne (xs := xs) (show (14 : Nat) ≠ 11 by decide)]; exact hA), h16⟩
    focus
     obtain ⟨d7, d11, _⟩ := hd
     obtain ⟨ρ, hρ⟩ : ∃ ρ, a'.eval = ρ := ⟨_, rfl⟩
     have hcst : ∀ v, ρ (.const v) = v := fun v => (congrFun hρ (.const v)).symm
     have v7 : ρ (.tmp 24) = .slice ai (lotAt f.lots k).ins.length ci := (congrFun hρ (.tmp 24)).symm.trans ((HF.out.ev 7 rfl d7).trans (HVA.out 7 _ (by rw [HVV.out]; rfl) d7))
     have v11 : ρ (.tmp 28) = .slice ar (rowAt W k).length cr := (congrFun hρ (.tmp 28)).symm.trans ((HF.out.ev 11 rfl d11).trans (HVA.out 11 _ (by rw [HVV.out]; rfl) d11))
     rw [if_pos (by simp [Region.wanted])]
     unfold Oper.wp
     rw [hρ]
     clear hρ
     go_simp
     exact hK.out _ _ ⟨HVA.out.set (i := 12) (by rw [HVV.out]; rfl), (by simp only [updV_ne (xs := xs) (show (13 : Nat) ≠ 12 by decide), updV_ne (xs := xs) (show (14 : Nat) ≠ 12 by decide)]; exact hA), h16⟩
    focus
     obtain ⟨d12, _⟩ := hd
     obtain ⟨ρ, hρ⟩ : ∃ ρ, a'.eval = ρ := ⟨_, rfl⟩
     have hcst : ∀ v, ρ (.const v) = v := fun v => (congrFun hρ (.const v)).symm
     have v12 : ρ (.tmp 29) = .agg #[.slice ai (lotAt f.lots k).ins.length ci, .bool true, .slice ar (rowAt W k).length cr] := (congrFun hρ (.tmp 29)).symm.trans ((HF.out.ev 12 rfl d12).trans (HVA.out 12 _ (by rw [HVV.out]; rfl) d12))
     rw [if_pos (by simp [Region.wanted])]
     unfold Oper.wp
     rw [hρ]
     clear hρ
     go_simp
     exact hK.out _ _ ⟨HVA.out.free (i := 13) (by rw [HVV.out]; rfl) _, (by simp only [updV_ne (xs := xs) (show (14 : Nat) ≠ 13 by decide), updV_self]; exact hA.sb HLI.out _ rfl), h16⟩
    focus
     obtain ⟨d1, d13, _⟩ := hd
     have v1 : a'.eval (.tmp 18) = .slice av nv cv := (HF.out.ev 1 rfl d1).trans (HVA.out 1 _ (by rw [HVV.out]; rfl) d1)
     have v13 : a'.eval (.tmp 30) = xs 13 := HF.out.ev 13 rfl d13
     rw [if_pos (by simp [Region.wanted])]
     obtain ⟨q, e13, q1, q2⟩ := hA.hq d13 HLI.out
     rw [e13] at v13
     have hsrc : SrcLots w.heap.size w' (.slice (some ⟨q, 0, none⟩) 1 1) [⟨(lotAt f.lots k).ins, true, rowAt W k⟩] := srcLots_one (q2.cell 0) (q2.cell 1) (q2.cell 2) (HLX.out _ hA.hb)
     obtain ⟨v5, w5, y1, y2, y3, y4⟩ := run_append_lots (ty := 22) (hA.hv HLI.out) hsrc (by have := HLL.out; simp; omega) (Nat.le_trans hA.hC.2.2 hA.sz)
     refine wp_of_append w' rfl v1 v13 y1 ?_
     exact hK.out _ _ ⟨HVA.out.free (i := 14) (by rw [HVV.out]; rfl) _, (by simp only [updV_ne (xs := xs) (show (13 : Nat) ≠ 14 by decide), updV_self]; exact hA.sa HLI.out d13 y2 y3 y4), (fun e => by have := (h16 e).2; rw [HLI.out] at this; cases this)⟩
    focus
     obtain ⟨d0, d1, d2, d3, d4, d5, d6, d7, d8, d9, d10, d11, d12, d13, d14, _⟩ := hd
     obtain ⟨ρ, hρ⟩ : ∃ ρ, a'.eval = ρ := ⟨_, rfl⟩
     have hcst : ∀ v, ρ (.const v) = v := fun v => (congrFun hρ (.const v)).symm
     have l5 : ρ (.tmp 5) = .pointer (some ⟨w.heap.size + 1 + 1, 0, none⟩) := (congrFun hρ (.tmp 5)).symm.trans (HF.out.lo 5 rfl)
     rw [if_pos (by simp [Region.wanted])]
     unfold Oper.wp
     rw [hρ]
     clear hρ
     go_simp
     exact hK.out _ _ ⟨HVA.out.set (i := 15) (by rw [HVV.out]; rfl), (by simp only [updV_ne (xs := xs) (show (13 : Nat) ≠ 15 by decide), updV_ne (xs := xs) (show (14 : Nat) ≠ 15 by decide)]; exact hA), h16⟩
    focus
     obtain ⟨d15, d14, _, d0, d1, d2, d3, d4, d5, d6, d7, d8, d9, d10, d11, d12, d13, _, _⟩ := hd
     obtain ⟨ρ, hρ⟩ : ∃ ρ, a'.eval = ρ := ⟨_, rfl⟩
     have hcst : ∀ v, ρ (.const v) = v := fun v => (congrFun hρ (.const v)).symm
     have v15 : ρ (.tmp 32) = .pointer (some ⟨w.heap.size + 1 + 1, 1, none⟩) := (congrFun hρ (.tmp 32)).symm.trans ((HF.out.ev 15 rfl d15).trans (HVA.out 15 _ (by rw [HVV.out]; rfl) d15))
     have v14 : ρ (.tmp 31) = xs 14 := (congrFun hρ (.tmp 31)).symm.trans (HF.out.ev 14 rfl d14)
     rw [if_pos (by simp [Region.wanted])]
     unfold Oper.wp
     rw [hρ]
     clear hρ
     obtain ⟨o1, o2, _⟩ := hA.ha d14
     obtain ⟨a8, n8, c8, e8⟩ : ∃ a n c, xs 14 = .slice a n c := by obtain ⟨a, c, e⟩ := o1.form; exact ⟨_, _, _, e⟩
     have HE8 := Lib.hid e8
     rw [e8] at v14
     have hSS := Lib.hid (hA.ss HLI.out d14)
     rw [e8] at hSS
     have fz := (hA.hc HLI.out).free 1
     have m1 := (hA.hc HLI.out).cell 1
     simp at m1
     clear o1 o2 e8
     go_simp
     exact hK.out undef _ ⟨HVA.out.free (i := 16) (by rw [HVV.out]; rfl) _, (by simp only [updV_ne (xs := xs) (show (13 : Nat) ≠ 16 by decide), updV_ne (xs := xs) (show (14 : Nat) ≠ 16 by decide)]; rw [HE8.out]; exact hSS.out), (fun _ => ⟨d1, d14⟩)⟩
   focus
    intro L w' xs hL hJ
    obtain ⟨hv, hA, h16⟩ := hJ
    have e0 : xs 0 = .pointer (some ⟨w.heap.size + 1 + 1, 1, none⟩) := hv 0 _ (by rw [HVV.out]; rfl) (hL 0 (by decide))
    have e1 : xs 1 = .slice av nv cv := hv 1 _ (by rw [HVV.out]; rfl) (hL 1 (by decide))
    have e2 : xs 2 = .pointer (some ⟨w.heap.size, 1, none⟩) := hv 2 _ (by rw [HVV.out]; rfl) (hL 2 (by decide))
    have e3 : xs 3 = .slice (some ⟨b, off, none⟩) f.lots.length cap := hv 3 _ (by rw [HVV.out]; rfl) (hL 3 (by decide))
    have e4 : xs 4 = .int .i64 (k : Int) := hv 4 _ (by rw [HVV.out]; rfl) (hL 4 (by decide))
    have e5 : xs 5 = .pointer (some ⟨b, off + k * 3, none⟩) := hv 5 _ (by rw [HVV.out]; rfl) (hL 5 (by decide))
    have e6 : xs 6 = .pointer (some ⟨b, off + k * 3, none⟩) := hv 6 _ (by rw [HVV.out]; rfl) (hL 6 (by decide))
    have e7 : xs 7 = .slice ai (lotAt f.lots k).ins.length ci := hv 7 _ (by rw [HVV.out]; rfl) (hL 7 (by decide))
    have e8 : xs 8 = .slice (some ⟨bw, ow, none⟩) W.length cw := hv 8 _ (by rw [HVV.out]; rfl) (hL 8 (by decide))
    have e9 : xs 9 = .int .i64 (k : Int) := hv 9 _ (by rw [HVV.out]; rfl) (hL 9 (by decide))
    have e10 : xs 10 = .pointer (some ⟨bw, ow + k, none⟩) := hv 10 _ (by rw [HVV.out]; rfl) (hL 10 (by decide))
    have e11 : xs 11 = .slice ar (rowAt W k).length cr := hv 11 _ (by rw [HVV.out]; rfl) (hL 11 (by decide))
    have e12 : xs 12 = .agg #[.slice ai (lotAt f.lots k).ins.length ci, .bool true, .slice ar (rowAt W k).length cr] := hv 12 _ (by rw [HVV.out]; rfl) (hL 12 (by decide))
    have e15 : xs 15 = .pointer (some ⟨w.heap.size + 1 + 1, 1, none⟩) := hv 15 _ (by rw [HVV.out]; rfl) (hL 15 (by decide))
    simp only [putGo, Act.put, List.setIfInBounds_toArray, List.set_cons_zero, List.set_cons_succ, e0, e1, e2, e3, e4, e5, e6, e7, e8, e9, e10, e11, e12, e15]
    clear hv e0 e1 e2 e3 e4 e5 e6 e7 e8 e9 e10 e11 e12 e15
    obtain ⟨W5, rfl⟩ : ∃ W', W' = w' := ⟨_, rfl⟩
    have hX := (h16 (hL 16 (by decide))).2
    have hX16 := hL 16 (by decide)
    have HAP := Lib.hid hA
    clear h16 hA hL
    go_wp2
    go_roundw
    case rel =>
     have hz0 : w.heap.size < WA.heap.size := z0
     obtain ⟨o1, o2, o3⟩ := HAP.out.ha hX
     refine ⟨k + 1, xs 14, by omega, by go_num, by rw [HLS.out]; exact o1, fun e => ?_, fun e => ?_, o2, ⟨Nat.lt_of_lt_of_le z0 HAP.out.sz, fun i => (HAP.out.cell z0 (by omega) n0).trans (HY0.out.2 i)⟩, ?_, HAP.out.he hX16, HAP.out.hb⟩
     ·rcases o3 with o3 | ⟨q, o3, hq⟩
      ·rw [o3] at e; exact n0 e
      ·rw [o3] at e; simp at e; omega
     ·have hy := HY1.out.lt
      rcases o3 with o3 | ⟨q, o3, hq⟩
      ·rw [o3] at e; exact n1 e
      ·rw [o3] at e; simp at e; omega
     ·obtain ⟨ty, hy⟩ := HY1.out
      exact ⟨ty, (HAP.out.ho _ HY1.out.lt (by omega) n1).trans hy⟩
    case measure => simp [intOf]; omega
  ·obtain rfl : k = f.lots.length := by omega
   obtain ⟨av, cv, rfl⟩ := hv.form
   have y0 := HY2.out.cell 0
   have y1 := HY2.out.cell 1
   simp at y0 y1
   have f0 := HY1.out.free 0
   have f1 := HY1.out.free 1
   have hz := HY1.out.lt
   have c10 := HY1.out.cell 0
   have c11 := HY1.out.cell 1
   simp at c10 c11
   have u0 := ((HY1.out.set 0 (.int .i64 f.senders)).set 1 (.slice av (alongL f W f.lots.length).length cv)).cell 0
   have u1 := ((HY1.out.set 0 (.int .i64 f.senders)).set 1 (.slice av (alongL f W f.lots.length).length cv)).cell 1
   simp at u0 u1
   have HR : Hid (OwnLots w.heap.size ((wr.setCell ⟨w.heap.size + 1, 0, none⟩ (.int .i64 f.senders)).setCell ⟨w.heap.size + 1, 1, none⟩ (.slice av (alongL f W f.lots.length).length cv)) (.slice av (alongL f W f.lots.length).length cv) (alongL f W f.lots.length)) :=
    Lib.hid ((HV.out.setX HBR.out.size (by omega) n1 0 _).setX (by simpa [World.setCell] using HBR.out.size) (by omega) n1 1 _)
   have HBE : Hid (Below w.heap.size w ((wr.setCell ⟨w.heap.size + 1, 0, none⟩ (.int .i64 f.senders)).setCell ⟨w.heap.size + 1, 1, none⟩ (.slice av (alongL f W f.lots.length).length cv))) :=
    Lib.hid ((HBR.out.setCell (p := ⟨w.heap.size + 1, 0, none⟩) (by show w.heap.size ≤ w.heap.size + 1; omega) _).setCell (p := ⟨w.heap.size + 1, 1, none⟩) (by show w.heap.size ≤ w.heap.size + 1; omega) _)
   clear x1 x2 hv
   go_wp2
   exact bodyPost_ret (v := .agg #[.int .i64 f.senders, .slice av (alongL f W f.lots.length).length cv]) (by simp [results, Try.results24, go_sem, u0, u1]) rfl ⟨_, rfl, HR.out.isLots HBE.out.size, HBE.out⟩
end Go.Proofs.Yteiaeaciaglmgaa
set_option linter.unusedVariables false
set_option linter.unusedSimpArgs false
namespace Go.Proofs.Yteiaeaciaglmgaa
open Go.RowKit
/-- a fact on a value that lasts while older memory stays -/
def Lasts (P : World → Value → Prop) : Prop := ∀ w w' v, P w v → Below w.heap.size w w' → P w' v
/-- x7: what the first call makes; x8, x9: the pair; x10, x12: its first part; x11, x13: its second -/
structure TwoC (WA : World) (P7 P8 : World → Value → Prop) (R : Value) (b7 b8 b9 b10 b11 b12 b13 : Bool) (x7 x8 x9 x10 x11 x12 x13 : Value) (w : World) : Prop where
 hb : Below WA.heap.size WA w
 h7 : b7 = true → P7 w x7
 h8 : b8 = true → ∃ v, x8 = .tuple #[v, R] ∧ P8 w v ∧ (b9 = true → x9 = .tuple #[v, R]) ∧ (b10 = true → x10 = v) ∧ (b11 = true → x11 = R) ∧ (b12 = true → x12 = v) ∧ (b13 = true → x13 = R)
 c9 : b9 = true → b8 = true
 c10 : b10 = true → b9 = true
 c11 : b11 = true → b9 = true
 c12 : b12 = true → b10 = true
 c13 : b13 = true → b11 = true
section
variable {WA : World} {P7 P8 : World → Value → Prop} {R : Value} {b7 b8 b9 b10 b11 b12 b13 : Bool} {x7 x8 x9 x10 x11 x12 x13 : Value} {w : World}
theorem TwoC.start (hb : Below WA.heap.size WA w) : TwoC WA P7 P8 R false false false false false false false x7 x8 x9 x10 x11 x12 x13 w :=
 {hb := hb, h7 := (fun h => by cases h), h8 := (fun h => by cases h), c9 := (fun h => by cases h), c10 := (fun h => by cases h), c11 := (fun h => by cases h), c12 := (fun h => by cases h), c13 := (fun h => by cases h) }
variable (h : TwoC WA P7 P8 R b7 b8 b9 b10 b11 b12 b13 x7 x8 x9 x10 x11 x12 x13 w)
include h
theorem TwoC.turn (l7 : Lasts P7) (l8 : Lasts P8) {w' : World} (hb : Below w.heap.size w w') : TwoC WA P7 P8 R b7 b8 b9 b10 b11 b12 b13 x7 x8 x9 x10 x11 x12 x13 w' :=
 {hb := h.hb.trans (hb.mono h.hb.size), h7 := (fun e => l7 _ _ _ (h.h7 e) hb), h8 := (fun e => by obtain ⟨v, e1, e2, e3⟩ := h.h8 e; exact ⟨v, e1, l8 _ _ _ e2 hb, e3⟩), c9 := h.c9, c10 := h.c10, c11 := h.c11, c12 := h.c12, c13 := h.c13 }
theorem TwoC.s7 (l7 : Lasts P7) (l8 : Lasts P8) {w' : World} (hb : Below w.heap.size w w') {x : Value} (hx : P7 w' x) : TwoC WA P7 P8 R true b8 b9 b10 b11 b12 b13 x x8 x9 x10 x11 x12 x13 w' := by
 have h' := h.turn l7 l8 hb
 exact { hb := h'.hb, h7 := (fun _ => hx), h8 := h'.h8, c9 := h.c9, c10 := h.c10, c11 := h.c11, c12 := h.c12, c13 := h.c13 }
theorem TwoC.s8 (hi : b8 = false) (l7 : Lasts P7) (l8 : Lasts P8) {w' : World} (hb : Below w.heap.size w w') {v : Value} (hx : P8 w' v) : TwoC WA P7 P8 R b7 true b9 b10 b11 b12 b13 x7 (.tuple #[v, R]) x9 x10 x11 x12 x13 w' := by
 have h' := h.turn l7 l8 hb
 have n9 : b9 = false := by
  cases e : b9 with
  | false => rfl
  | true => have := h.c9 e; rw [hi] at this; cases this
 have n10 : b10 = false := by
  cases e : b10 with
  | false => rfl
  | true => have := h.c10 e; rw [n9] at this; cases this
 have n11 : b11 = false := by
  cases e : b11 with
  | false => rfl
  | true => have := h.c11 e; rw [n9] at this; cases this
 have n12 : b12 = false := by
  cases e : b12 with
  | false => rfl
  | true => have := h.c12 e; rw [n10] at this; cases this
 have n13 : b13 = false := by
  cases e : b13 with
  | false => rfl
  | true => have := h.c13 e; rw [n11] at this; cases this
 exact { hb := h'.hb, h7 := h'.h7, h8 := (fun _ => ⟨v, rfl, hx, (fun e => by rw [n9] at e; cases e), (fun e => by rw [n10] at e; cases e), (fun e => by rw [n11] at e; cases e), (fun e => by rw [n12] at e; cases e), (fun e => by rw [n13] at e; cases e)⟩), c9 := (fun _ => rfl), c10 := h.c10, c11 := h.c11, c12 := h.c12, c13 := h.c13 }
theorem TwoC.s13 (d11 : b11 = true) : TwoC WA P7 P8 R b7 b8 b9 b10 b11 b12 true x7 x8 x9 x10 x11 x12 R w :=
 {hb := h.hb, h7 := h.h7, h8 := (fun e => by obtain ⟨u, e1, e2, e3, e4, e5, e6, e7⟩ := h.h8 e; exact ⟨u, e1, e2, e3, e4, e5, e6, fun _ => rfl⟩), c9 := h.c9, c10 := h.c10, c11 := h.c11, c12 := h.c12, c13 := (fun _ => d11) }
end
end Go.Proofs.Yteiaeaciaglmgaa
set_option linter.unusedVariables false
set_option linter.unusedSimpArgs false
namespace Go.Proofs.Yteiaeaciaglmgaa
open Go.RowKit
def isP (f : Flow) (W : List (List Int)) (k : Nat) : Bool := permB (rowAt W k) (lotAt f.lots k).ins.length && (!(lotAt f.lots k).known || sameB (rowAt W k) (lotAt f.lots k).perm)
theorem isB_parts (f : Flow) (W : List (List Int)) : isB f W = (decide (W.length = f.lots.length) && allN (isP f W) f.lots.length) := rfl
theorem allN_false {p : Nat → Bool} {k n : Nat} (h : p k = false) (hk : k < n) : allN p n = false := by
 cases e : allN p n with
 | false => rfl
 | true => rw [allN_iff.1 e k hk] at h; cases h
set_option maxHeartbeats 4000000 in
set_option maxRecDepth 100000 in
/-- frankingref29.Is -/
theorem is29_any (B : Nat) (w : World) (vs vl vw : Value) (f : Flow) (W : List (List Int)) (hf : IsFlow B w vs vl f) (hw : IsMat B w vw W) (hB : B ≤ w.heap.size) :
  Calls Try.prog 22 #[.agg #[vs, vl], vw] w fun e w' => e = .returned (.bool (isB f W)) ∧ Below w.heap.size w w' := by
 have HIB := Lib.hid (isB_parts f W)
 obtain ⟨rfl, ⟨hs1, hs2⟩, hl'⟩ := hf
 obtain ⟨b, off, cap, ⟨a, rfl, hcap, hmax, ha⟩, hlen, hc⟩ := hl'
 obtain ⟨bw, ow, cw, ⟨aw, rfl, hcapw, hmaxw, haw⟩, hlenw, hcw⟩ := hw
 have HC := Lib.hid hc
 have HA := Lib.hid ha
 have HCW := Lib.hid hcw
 have HAW := Lib.hid haw
 clear hc ha hcw haw
 by_cases hl : W.length = f.lots.length
 ·have hl2 : ((W.length : Int) != (f.lots.length : Int)) = false := by rw [hl]; simp
  have HIB2 : Hid (isB f W = allN (isP f W) f.lots.length) := Lib.hid (by rw [HIB.out, decide_eq_true hl, Bool.true_and])
  have HL := Lib.hid hl
  clear hl
  go_enter Try.func22, Try.ntmps22
  go_wp2
  refine wp_name (fun W1 hW1 => ?_)
  have HX1 : Hid (Box W1 w.heap.size #[.int .i64 f.senders, .slice a f.lots.length cap]) := Lib.hid (by rw [hW1]; exact Box.new w #[.int .i64 f.senders, .slice a f.lots.length cap] 24)
  have HW1 : Hid (Below w.heap.size w W1) := Lib.hid (by rw [hW1]; exact box_below' w _)
  clear hW1
  go_loopw [5] (fun i wr => ∃ k : Nat, k ≤ W.length ∧ i = .int .i64 k ∧ allN (isP f W) k = true ∧ Drew W1 wr) (fun i _ => W.length - (intOf i).toNat)
  case atStart => exact ⟨0, by omega, rfl, rfl, Drew.refl _⟩
  case round =>
   obtain ⟨k, hk, rfl, he, hd⟩ := hrel
   have HE := Lib.hid he
   have HD := Lib.hid hd
   clear he hd
   by_cases hlt : k < W.length
   ·have hkl : k < f.lots.length := by rw [← HL.out]; exact hlt
    obtain rfl : a = some ⟨b, off, none⟩ := by rcases HA.out with h | h; exact h; omega
    obtain rfl : aw = some ⟨bw, ow, none⟩ := by rcases HAW.out with h | h; exact h; omega
    obtain ⟨vi, vk, vp, q1, q2, q3, hli, rfl, hlp⟩ := HC.out k hkl
    obtain ⟨vr, hr1, hr2⟩ := HCW.out k hlt
    obtain ⟨ai, ci, rfl⟩ := hli.form
    obtain ⟨ap, cp, rfl⟩ := hlp.form
    obtain ⟨ar, cr, rfl⟩ := hr2.form
    have hBr : Below B w wr := (HW1.out.trans (HD.out.below _)).mono hB
    have c1 := (q1.below hBr (Nat.le_refl _)).2
    have c2 := (q2.below hBr (Nat.le_refl _)).2
    have c3 := (q3.below hBr (Nat.le_refl _)).2
    have c4 := (hr1.below hBr (Nat.le_refl _)).2
    have hxr := HX1.out.2 1
    have c5 := (HD.out.cell (a := ⟨w.heap.size, 1, none⟩)).trans hxr
    simp at c5
    have HPC := Lib.hid (fun m => perm_any B (wr.drewN m) (.slice ar (rowAt W k).length cr) (rowAt W k) ((lotAt f.lots k).ins.length : Int) (hr2.below (below_drewN hBr m) (Nat.le_refl _)))
    have HSC := Lib.hid (fun m => same_any B (wr.drewN m) (.slice ar (rowAt W k).length cr) (.slice ap (lotAt f.lots k).perm.length cp) (rowAt W k) (lotAt f.lots k).perm (hr2.below (below_drewN hBr m) (Nat.le_refl _)) (hlp.below (below_drewN hBr m) (Nat.le_refl _)))
    have HIP : Hid (isP f W k = (permB (rowAt W k) (lotAt f.lots k).ins.length && (!(lotAt f.lots k).known || sameB (rowAt W k) (lotAt f.lots k).perm))) := Lib.hid rfl
    have HST : Hid (isP f W k = true → allN (isP f W) (k + 1) = true) := Lib.hid fun h => by simp only [allN, HE.out, h]; rfl
    have HNO : Hid (isP f W k = false → isB f W = false) := Lib.hid fun h => by rw [HIB2.out]; exact allN_false h hkl
    have HWD : Hid (∀ n, Below w.heap.size w (wr.drewN n)) := Lib.hid fun n => below_drewN (HW1.out.trans (HD.out.below _)) n
    obtain ⟨pb, hpb⟩ : ∃ x, permB (rowAt W k) (lotAt f.lots k).ins.length = x := ⟨_, rfl⟩
    obtain ⟨sb, hsb⟩ : ∃ x, sameB (rowAt W k) (lotAt f.lots k).perm = x := ⟨_, rfl⟩
    obtain ⟨kb, hkb⟩ : ∃ x, (lotAt f.lots k).known = x := ⟨_, rfl⟩
    rw [hpb] at HPC HIP
    rw [hsb] at HSC HIP
    rw [hkb] at c2 HIP
    clear q1 q2 q3 hli hlp hr1 hr2 hpb hsb hkb hxr hBr
    cases pb
    ·have HR := Lib.hid (HNO.out (by rw [HIP.out]; rfl))
     go_wp2
     go_quiet ((go_at_call 50; exact Calls.quiet_of (HPC.out _)))
     go_wp2
     go_ret
     exact ⟨by rw [HR.out]; rfl, HWD.out _⟩
    ·cases kb
     ·have HR := Lib.hid (HST.out (by rw [HIP.out]; rfl))
      go_wp2
      go_quiet ((go_at_call 50; exact Calls.quiet_of (HPC.out _)))
      go_wp2
      go_roundw
      case rel => exact ⟨k + 1, by omega, by go_num, HR.out, HD.out.drewN _⟩
      case measure => simp [intOf]; omega
     ·cases sb
      ·have HR := Lib.hid (HNO.out (by rw [HIP.out]; rfl))
       go_wp2
       go_quiet ((first | (go_at_call 50; exact Calls.quiet_of (HPC.out _)) | (go_at_call 25; exact Calls.quiet_of (HSC.out _))))
       go_wp2
       go_ret
       exact ⟨by rw [HR.out]; rfl, HWD.out _⟩
      ·have HR := Lib.hid (HST.out (by rw [HIP.out]; rfl))
       go_wp2
       go_quiet ((first | (go_at_call 50; exact Calls.quiet_of (HPC.out _)) | (go_at_call 25; exact Calls.quiet_of (HSC.out _))))
       go_wp2
       go_roundw
       case rel => exact ⟨k + 1, by omega, by go_num, HR.out, HD.out.drewN _⟩
       case measure => simp [intOf]; omega
   ·have HR : Hid (isB f W = true) := Lib.hid (by rw [HIB2.out, ← HL.out, show W.length = k by omega]; exact HE.out)
    go_wp2
    go_ret
    exact ⟨by rw [HR.out]; rfl, HW1.out.trans (HD.out.below _)⟩
 ·have hl2 : ((W.length : Int) != (f.lots.length : Int)) = true := by simp; omega
  have HR : Hid (isB f W = false) := Lib.hid (by rw [HIB.out, decide_eq_false hl]; rfl)
  clear hl
  go_enter Try.func22, Try.ntmps22
  go_wp2
  go_ret
  exact ⟨by rw [HR.out]; rfl, box_below' _ _⟩
end Go.Proofs.Yteiaeaciaglmgaa
set_option linter.unusedVariables false
set_option linter.unusedSimpArgs false
namespace Go.Proofs.Yteiaeaciaglmgaa
open Go.RowKit
theorem IsIntsX.ints {X : Nat → Prop} {w : World} {v : Value} {xs : List Int} (h : IsIntsX X w v xs) : IsInts w.heap.size w v xs := by
 obtain ⟨b, off, cap, h1, h2, h3, h4⟩ := h
 exact ⟨b, off, cap, h1, h2, h3, fun j hj => ⟨(h4 j hj).2.1, (h4 j hj).2.2⟩⟩
def IsMatX (X : Nat → Prop) (w : World) (v : Value) (rows : List (List Int)) : Prop :=
 ∃ b off cap, SliceV v rows.length b off cap ∧ rows.length ≤ 5864062014634 ∧ ∀ j, j < rows.length → ∃ r, X b ∧ b < w.heap.size ∧ w.cell? ⟨b, off + j, none⟩ = some r ∧ IsIntsX X w r (rowAt rows j)
theorem IsIntsX.kept {X : Nat → Prop} {w w' : World} {v : Value} {xs : List Int} (h : IsIntsX X w v xs) (hz : w.heap.size ≤ w'.heap.size) (hk : ∀ q, X q → q < w.heap.size → w'.heap[q]? = w.heap[q]?) : IsIntsX X w' v xs := by
 obtain ⟨b, off, cap, h1, h2, h3, h4⟩ := h
 refine ⟨b, off, cap, h1, h2, h3, fun j hj => ?_⟩
 obtain ⟨a, c, d⟩ := h4 j hj
 exact ⟨a, by omega, (World.cell?_of_block (a := ⟨b, off + j, none⟩) (hk b a c)).trans d⟩
theorem IsMatX.kept {X : Nat → Prop} {w w' : World} {v : Value} {rows : List (List Int)} (h : IsMatX X w v rows) (hz : w.heap.size ≤ w'.heap.size) (hk : ∀ q, X q → q < w.heap.size → w'.heap[q]? = w.heap[q]?) : IsMatX X w' v rows := by
 obtain ⟨b, off, cap, h1, h2, h3⟩ := h
 refine ⟨b, off, cap, h1, h2, fun j hj => ?_⟩
 obtain ⟨r, a, c, d, e⟩ := h3 j hj
 exact ⟨r, a, by omega, (World.cell?_of_block (a := ⟨b, off + j, none⟩) (hk b a c)).trans d, e.kept hz hk⟩
theorem IsMatX.below {X : Nat → Prop} {w w' : World} {v : Value} {rows : List (List Int)} (h : IsMatX X w v rows) (hb : Below w.heap.size w w') : IsMatX X w' v rows := h.kept hb.size (fun q _ hq => hb.block q hq)
theorem IsIntsX.belowX {X : Nat → Prop} {w w' : World} {v : Value} {xs : List Int} (h : IsIntsX X w v xs) (hb : Below w.heap.size w w') : IsIntsX X w' v xs := h.kept hb.size (fun q _ hq => hb.block q hq)
theorem IsMatX.setCell {X : Nat → Prop} {w : World} {v : Value} {rows : List (List Int)} (h : IsMatX X w v rows) {a : Addr} (ha : ¬ X a.block) (u : Value) : IsMatX X (w.setCell a u) v rows :=
 h.kept (by simp [World.setCell]) (fun q hq hz => Below.heap_setCell w a u q (fun e => ha (e ▸ hq)))
theorem IsMatX.form {X : Nat → Prop} {w : World} {v : Value} {rows : List (List Int)} (h : IsMatX X w v rows) : ∃ a c, v = .slice a rows.length c := by
 obtain ⟨b, off, cap, ⟨a, rfl, _⟩, _⟩ := h
 exact ⟨a, cap, rfl⟩
theorem IsIntsX.form {X : Nat → Prop} {w : World} {v : Value} {xs : List Int} (h : IsIntsX X w v xs) : ∃ a c, v = .slice a xs.length c := by
 obtain ⟨b, off, cap, ⟨a, rfl, _⟩, _⟩ := h
 exact ⟨a, cap, rfl⟩
theorem IsMatX.nil (X : Nat → Prop) (w : World) : IsMatX X w (.slice none 0 0) [] := ⟨0, 0, 0, ⟨none, rfl, Nat.le_refl _, by omega, .inr rfl⟩, by simp, fun j hj => by simp at hj⟩
theorem IsIntsX.nil (X : Nat → Prop) (w : World) : IsIntsX X w (.slice none 0 0) [] := ⟨0, 0, 0, ⟨none, rfl, Nat.le_refl _, by omega, .inr rfl⟩, by simp, by simp, fun j hj => by simp at hj⟩
end Go.Proofs.Yteiaeaciaglmgaa
set_option linter.unusedVariables false
set_option linter.unusedSimpArgs false
namespace Go.Proofs.Yteiaeaciaglmgaa
open Go.RowKit
theorem IsMatX.old {X Y : Nat → Prop} {w : World} {v : Value} {rows : List (List Int)} (h : IsMatX X w v rows) (hY : ∀ q, X q → q < w.heap.size → Y q) : IsMatX Y w v rows := by
 obtain ⟨b, off, cap, h1, h2, h3⟩ := h
 refine ⟨b, off, cap, h1, h2, fun j hj => ?_⟩
 obtain ⟨r, a, c, d, b', off', cap', g1, g2, g3, g4⟩ := h3 j hj
 exact ⟨r, hY _ a c, c, d, b', off', cap', g1, g2, g3, fun i hi => ⟨hY _ (g4 i hi).1 (g4 i hi).2.1, (g4 i hi).2⟩⟩
theorem IsIntsX.old {X Y : Nat → Prop} {w : World} {v : Value} {xs : List Int} (h : IsIntsX X w v xs) (hY : ∀ q, X q → q < w.heap.size → Y q) : IsIntsX Y w v xs := by
 obtain ⟨b', off', cap', g1, g2, g3, g4⟩ := h
 exact ⟨b', off', cap', g1, g2, g3, fun i hi => ⟨hY _ (g4 i hi).1 (g4 i hi).2.1, (g4 i hi).2⟩⟩
end Go.Proofs.Yteiaeaciaglmgaa
set_option linter.unusedVariables false
set_option linter.unusedSimpArgs false
namespace Go.Proofs.Yteiaeaciaglmgaa
open Go.RowKit
structure DecR (C c4 : Nat) (w0 w1 : World) (vW : Value) (part : List Int) (p : Int) (f2 f5 f7 f8 f10 : Bool) (x2 x5 x7 x8 : Value) (w : World) : Prop where
 hb : Below C w0 w
 hC : C ≤ c4 ∧ c4 < w1.heap.size
 sz : w1.heap.size ≤ w.heap.size
 ho : ∀ k, k < w1.heap.size → k ≠ c4 → w.heap[k]? = w1.heap[k]?
 h2 : f2 = true → f5 = false → OwnInts w1.heap.size w x2 []
 h5 : f5 = true → f8 = false → OwnInts w1.heap.size w x5 part
 h7 : f7 = true → f8 = false → ∃ q, x7 = .slice (some ⟨q, 0, none⟩) 1 1 ∧ w1.heap.size ≤ q ∧ CellsN w q #[.int .i64 p] ∧ (f2 = true → f5 = false → x2.ownBlock ≠ some q) ∧ (f5 = true → x5.ownBlock ≠ some q)
 h8 : f8 = true → OwnInts w1.heap.size w x8 (part ++ [p])
 c5 : f5 = true → f2 = true
 c8 : f8 = true → f5 = true ∧ f7 = true
 c10 : f10 = true → f8 = true
 hc : f10 = false → CellsN w c4 #[.slice none 0 0, .slice none 0 0]
 he : f10 = true → CellsN w c4 #[vW, x8]
theorem OwnInts.ltX {B : Nat} {w : World} {v : Value} {xs : List Int} (h : OwnInts B w v xs) : ∀ k, v.ownBlock = some k → B ≤ k ∧ k < w.heap.size := h.1.lt
section
variable {C c4 : Nat} {w0 w1 : World} {vW : Value} {part : List Int} {p : Int} {f2 f5 f7 f8 f10 : Bool} {x2 x5 x7 x8 : Value} {w : World}
theorem DecR.start (hb : Below C w0 w1) (hC : C ≤ c4) (hc : CellsN w1 c4 #[.slice none 0 0, .slice none 0 0]) (n : Nat) : DecR C c4 w0 w1 vW part p false false false false false x2 x5 x7 x8 (w1.drewN n) :=
 {
  hb := hb.trans (below_drewN (Below.refl _ _) n), hC := ⟨hC, hc.lt⟩, sz := Nat.le_refl _, ho := (fun k _ _ => rfl), h2 := (fun h => by cases h), h5 := (fun h => by cases h), h7 := (fun h => by cases h), h8 := (fun h => by cases h),
  c5 := (fun h => by cases h), c8 := (fun h => by cases h), c10 := (fun h => by cases h), hc := (fun _ => hc), he := (fun h => by cases h) }
variable (h : DecR C c4 w0 w1 vW part p f2 f5 f7 f8 f10 x2 x5 x7 x8 w)
include h
theorem DecR.n5 (e : f2 = false) : f5 = false := by
 cases e5 : f5 with
 | false => rfl
 | true => have := h.c5 e5; rw [e] at this; cases this
theorem DecR.n8 (e : f5 = false ∨ f7 = false) : f8 = false := by
 cases e5 : f8 with
 | false => rfl
 | true => have := h.c8 e5; rcases e with e | e <;> simp [e] at this
theorem DecR.n10 (e : f8 = false) : f10 = false := by
 cases e5 : f10 with
 | false => rfl
 | true => have := h.c10 e5; rw [e] at this; cases this
theorem DecR.s2 (hi : f2 = false) {x : Value} (he : x = .slice (some ⟨w.heap.size, 0, none⟩) 0 0) : DecR C c4 w0 w1 vW part p true f5 f7 f8 f10 x x5 x7 x8 (w.alloc (.cells #[] 3)) := by
 have e5 := h.n5 hi
 have e8 := h.n8 (.inl e5)
 have e10 := h.n10 e8
 subst e5 e8 e10
 have hz := h.sz
 have hCz := Nat.le_trans h.hC.1 (Nat.le_of_lt h.hC.2)
 exact {
  hb := h.hb.alloc (by omega) _, hC := h.hC, sz := (by simp; omega), ho := (fun k hk h1 => ((box_below' w (.cells #[] 3)).block k (by omega)).trans (h.ho k hk h1)),
  h2 := (fun _ _ => by rw [he]; exact OwnInts.made hz), h5 := (fun e => by cases e),
  h7 := (fun e e' => by
   obtain ⟨q, a1, a2, a3, a4, a5⟩ := h.h7 e e'
   exact ⟨q, a1, a2, a3.alloc _, (fun _ _ e2 => by rw [he] at e2; have := a3.lt; simp [Value.ownBlock] at e2; omega), a5⟩),
  h8 := (fun e => by cases e), c5 := (fun e => by cases e), c8 := (fun e => by cases e), c10 := (fun e => by cases e), hc := (fun _ => (h.hc rfl).alloc _), he := (fun e => by cases e) }
theorem DecR.s7 (hi : f7 = false) {x : Value} (he : x = .slice (some ⟨w.heap.size, 0, none⟩) 1 1) : DecR C c4 w0 w1 vW part p f2 f5 true f8 f10 x2 x5 x x8 (w.alloc (.cells #[.int .i64 p] 3)) := by
 have e8 := h.n8 (.inr hi)
 have e10 := h.n10 e8
 subst e8 e10
 have hz := h.sz
 have hCz := Nat.le_trans h.hC.1 (Nat.le_of_lt h.hC.2)
 exact {
  hb := h.hb.alloc (by omega) _, hC := h.hC, sz := (by simp; omega), ho := (fun k hk h1 => ((box_below' w (.cells #[.int .i64 p] 3)).block k (by omega)).trans (h.ho k hk h1)),
  h2 := (fun e e' => (h.h2 e e').alloc _), h5 := (fun e e' => (h.h5 e e').alloc _),
  h7 := (fun _ _ => ⟨_, he, hz, CellsN.new w _ _, (fun e e' e2 => by have := ((h.h2 e e').ltX _ e2).2; omega), (fun e e2 => by have := ((h.h5 e rfl).ltX _ e2).2; omega)⟩),
  h8 := (fun e => by cases e), c5 := h.c5, c8 := (fun e => by cases e), c10 := (fun e => by cases e), hc := (fun _ => (h.hc rfl).alloc _), he := (fun e => by cases e) }
theorem DecR.s5 (hi : f5 = false) (hf2 : f2 = true) {v' : Value} {w' : World} (ho : OwnInts w1.heap.size w' v' part) (hg : w.grownBy w' x2.ownBlock) (hat : v'.ownBlock = x2.ownBlock ∨ v'.ownBlock = some w.heap.size) : DecR C c4 w0 w1 vW part p f2 true f7 f8 f10 x2 v' x7 x8 w' := by
 have e8 := h.n8 (.inl hi)
 have e10 := h.n10 e8
 subst e8 e10 hi hf2
 have hz := h.sz
 have hCz := Nat.le_trans h.hC.1 (Nat.le_of_lt h.hC.2)
 have hl := (h.h2 rfl rfl).ltX
 exact {
  hb := h.hb.grown hg (by omega) (fun k hk => by have := (hl k hk).1; omega), hC := h.hC, sz := Nat.le_trans hz hg.size, ho := (fun k hk h1 => (hg.block k (by omega) (fun e => by have := (hl k e.symm).1; omega)).trans (h.ho k hk h1)),
  h2 := (fun _ e => by cases e), h5 := (fun _ _ => ho),
  h7 := (fun e _ => by
   obtain ⟨q, a1, a2, a3, a4, a5⟩ := h.h7 e rfl
   refine ⟨q, a1, a2, a3.grown hg (fun e2 => a4 rfl rfl e2.symm), (fun _ e2 => by cases e2), (fun _ e2 => ?_)⟩
   rcases hat with e3 | e3
   ·rw [e3] at e2; exact a4 rfl rfl e2
   ·rw [e3] at e2; have := a3.lt; simp at e2; omega),
  h8 := (fun e => by cases e), c5 := (fun _ => rfl), c8 := (fun e => by cases e), c10 := (fun e => by cases e), hc := (fun _ => (h.hc rfl).grown hg (fun e => by have := (hl _ e.symm).1; have := h.hC.2; omega)), he := (fun e => by cases e) }
theorem DecR.s8 (hi : f8 = false) (hf5 : f5 = true) (hf7 : f7 = true) {v' : Value} {w' : World} (ho : OwnInts w1.heap.size w' v' (part ++ [p])) (hg : w.grownBy w' x5.ownBlock) : DecR C c4 w0 w1 vW part p f2 f5 f7 true f10 x2 x5 x7 v' w' := by
 have e10 := h.n10 hi
 subst e10 hi hf5 hf7
 have hz := h.sz
 have hCz := Nat.le_trans h.hC.1 (Nat.le_of_lt h.hC.2)
 have hl := (h.h5 rfl rfl).ltX
 exact {
  hb := h.hb.grown hg (by omega) (fun k hk => by have := (hl k hk).1; omega), hC := h.hC, sz := Nat.le_trans hz hg.size, ho := (fun k hk h1 => (hg.block k (by omega) (fun e => by have := (hl k e.symm).1; omega)).trans (h.ho k hk h1)),
  h2 := (fun _ e => by cases e), h5 := (fun _ e => by cases e), h7 := (fun _ e => by cases e),
  h8 := (fun _ => ho), c5 := h.c5, c8 := (fun _ => ⟨rfl, rfl⟩), c10 := (fun e => by cases e), hc := (fun _ => (h.hc rfl).grown hg (fun e => by have := (hl _ e.symm).1; have := h.hC.2; omega)), he := (fun e => by cases e) }
/-- what other blocks hold -/
theorem DecR.cell {k i : Nat} (hk : k < w1.heap.size) (h1 : k ≠ c4) : w.cell? ⟨k, i, none⟩ = w1.cell? ⟨k, i, none⟩ := by
 simp only [World.cell?, h.ho k hk h1]
end
end Go.Proofs.Yteiaeaciaglmgaa
set_option linter.unusedVariables false
set_option linter.unusedSimpArgs false
namespace Go.Proofs.Yteiaeaciaglmgaa
open Go.RowKit
/-- where a letter goes in a lot whose first q inputs are decided -/
theorem mv_next {ins : List Int} (hn : ins.Nodup) {q : Nat} (hq : q < ins.length) (row : List Int) (b y : Int) :
  mvI (ins.take (q + 1)) row b y = if nth ins q = y then b + nth row q else mvI (ins.take q) row b y := by
 by_cases e : nth ins q = y
 ·rw [if_pos e]
  unfold mvI
  rw [← e, (idx_take hn (show q < q + 1 by omega) (by omega)).2, if_pos rfl, (idx_take hn (show q < q + 1 by omega) (by omega)).1]
 ·rw [if_neg e]
  unfold mvI
  have h1 : hasB (ins.take (q + 1)) y = hasB (ins.take q) y := by
   rw [Bool.eq_iff_iff, hasB_mem, hasB_mem, List.take_succ_eq_append_getElem hq, List.mem_append, List.mem_singleton, ← nth_lt hq]
   constructor
   ·rintro (h | h)
    ·exact h
    ·exact absurd h.symm e
   ·exact .inl
  rw [h1]
  by_cases hh : hasB (ins.take q) y = true
  ·rw [if_pos hh, if_pos hh]
   have h2 := take_idx hn (show q ≤ _ by omega) hh
   have h3 := take_idx hn (show q + 1 ≤ _ by omega) (h1.trans hh)
   rw [h2.2.1, h3.2.1]
  ·rw [if_neg hh, if_neg hh]
theorem mv_zero (ins row : List Int) (b y : Int) : mvI (ins.take 0) row b y = y := by simp [mvI, hasB]
end Go.Proofs.Yteiaeaciaglmgaa
set_option linter.unusedVariables false
set_option linter.unusedSimpArgs false
namespace Go.Proofs.Yteiaeaciaglmgaa
open Go.RowKit
theorem leastN_first {p : Nat → Bool} {n i : Nat} (hi : i < n) (hn : ∀ j, j < i → p j = false) (hp : p i = true) : leastN p n = i := by
 by_cases h : 0 ≤ leastN p n
 ·obtain ⟨j, h1, h2, h3, h4⟩ := leastN_pos h
  rw [h1]
  by_cases e : j < i
  ·rw [hn j e] at h3; cases h3
  ·by_cases e2 : i < j
   ·rw [h4 i e2] at hp; cases hp
   ·have : j = i := by omega
    rw [this]
 ·rw [leastN_neg (p := p) (n := n) (by omega) i hi] at hp; cases hp
theorem leastN_none {p : Nat → Bool} {n : Nat} (hn : ∀ j, j < n → p j = false) : leastN p n = -1 := by
 by_cases h : 0 ≤ leastN p n
 ·obtain ⟨j, h1, h2, h3, h4⟩ := leastN_pos h
  rw [hn j h2] at h3; cases h3
 ·have := (leastN_bd p n).1
  omega
end Go.Proofs.Yteiaeaciaglmgaa
set_option linter.unusedVariables false
set_option linter.unusedSimpArgs false
namespace Go.Proofs.Yteiaeaciaglmgaa
open Go.RowKit
def LK : Nat := 2932031007402
theorem den_inf : (Try.prog.info? 31).map (fun i => (i.zero, i.size, i.bytes)) = some (some (.agg #[.int .i64 0, .int .i64 0, .slice none 0 0, .int .i64 0]), 4, 48) := by kernel_rfl
/-- the cells read as a denial; all that they lead to lies in blocks of S -/
inductive DenS (S : Nat → Prop) (w : World) : List Value → Den → Prop
 | mk (l i s : Int) (kids : List Den) (vk : Value) (b off cap : Nat) (cs : Nat → List Value) (h1 : SliceV vk kids.length b off cap) (hL : kids.length ≤ LK) (hl : I64 l) (hi : I64 i) (hs : I64 s)
   (hc : ∀ j, j < kids.length → S b ∧ ∀ q u, (cs j)[q]? = some u → w.cell? ⟨b, off + j * 4 + q, none⟩ = some u)
   (hk : ∀ j, j < kids.length → DenS S w (cs j) (denAt kids j)) : DenS S w [.int .i64 l, .int .i64 i, vk, .int .i64 s] (.mk l i kids s)
theorem DenS.keep {S : Nat → Prop} {w w' : World} {c : List Value} {d : Den} (h : DenS S w c d) (hk : ∀ q, S q → w'.heap[q]? = w.heap[q]?) : DenS S w' c d := by
 induction h with
 | mk l i s kids vk b off cap cs h1 hL hl hi hs hc _ ih =>
  exact .mk l i s kids vk b off cap cs h1 hL hl hi hs (fun j hj => ⟨(hc j hj).1, fun q u hq => (World.cell?_of_block (a := ⟨b, off + j * 4 + q, none⟩) (hk b (hc j hj).1)).trans ((hc j hj).2 q u hq)⟩) ih
theorem DenS.mono {S S' : Nat → Prop} {w : World} {c : List Value} {d : Den} (h : DenS S w c d) (hS : ∀ q, S q → S' q) : DenS S' w c d := by
 induction h with
 | mk l i s kids vk b off cap cs h1 hL hl hi hs hc _ ih =>
  exact .mk l i s kids vk b off cap cs h1 hL hl hi hs (fun j hj => ⟨hS _ (hc j hj).1, (hc j hj).2⟩) ih
/-- what the cells are -/
theorem DenS.form {S : Nat → Prop} {w : World} {c : List Value} {d : Den} (h : DenS S w c d) : ∃ ak ck, c = [.int .i64 d.lot, .int .i64 d.inn, .slice ak d.kids.length ck, .int .i64 d.sender] ∧ I64 d.lot ∧ I64 d.inn ∧ I64 d.sender ∧ d.kids.length ≤ LK ∧
  ∃ b off, (ak = some ⟨b, off, none⟩ ∨ d.kids.length = 0) ∧ ∀ j, j < d.kids.length → S b ∧ ∃ cs, (∀ q u, cs[q]? = some u → w.cell? ⟨b, off + j * 4 + q, none⟩ = some u) ∧ DenS S w cs (denAt d.kids j) := by
 cases h with
 | mk l i s kids vk b off cap cs h1 hL hl hi hs hc hk =>
  obtain ⟨a, rfl, _, _, ha⟩ := h1
  exact ⟨a, cap, rfl, hl, hi, hs, hL, b, off, ha, fun j hj => ⟨(hc j hj).1, cs j, (hc j hj).2, hk j hj⟩⟩
theorem DenS.form6 {S : Nat → Prop} {w : World} {y0 y1 y2 y3 : Value} {d : Den} (h : DenS S w [y0, y1, y2, y3] d) : ∃ l0 l1 ak nk ck l3, y0 = .int .i64 l0 ∧ y1 = .int .i64 l1 ∧ y2 = .slice ak nk ck ∧ y3 = .int .i64 l3 := by
 obtain ⟨ak, ck, e, _⟩ := h.form
 simp only [List.cons.injEq, and_true] at e
 exact ⟨_, _, _, _, _, _, e⟩
theorem denSK : RecS 4 DenS :=
 {len := fun h => by obtain ⟨_, _, rfl, _⟩ := h.form; rfl
  one := fun h u hu => by
   obtain ⟨_, _, rfl, _⟩ := h.form
   simp only [List.mem_cons, List.not_mem_nil, or_false] at hu
   rcases hu with rfl | rfl | rfl | rfl <;> rfl
  keep := fun h hk => h.keep hk }
theorem DenS.zero (S : Nat → Prop) (w : World) : DenS S w [.int .i64 0, .int .i64 0, .slice none 0 0, .int .i64 0] noD :=
 .mk 0 0 0 [] (.slice none 0 0) 0 0 0 (fun _ => []) ⟨none, rfl, Nat.le_refl _, by omega, Or.inr rfl⟩ (by decide) (by unfold I64; omega) (by unfold I64; omega) (by unfold I64; omega) (fun j hj => by simp at hj) (fun j hj => by simp at hj)
theorem DenS.leaf (S : Nat → Prop) (w : World) {i : Int} (hi : I64 i) : DenS S w [.int .i64 (-1), .int .i64 0, .slice none 0 0, .int .i64 i] (leafD i) :=
 .mk (-1) 0 i [] (.slice none 0 0) 0 0 0 (fun _ => []) ⟨none, rfl, Nat.le_refl _, by omega, Or.inr rfl⟩ (by decide) (by unfold I64; omega) (by unfold I64; omega) hi (fun j hj => by simp at hj) (fun j hj => by simp at hj)
/-- a denial with children of the call's own -/
theorem OwnDeep.den {C : Nat} {w : World} {v : Value} {kids : List Den} (h : OwnDeep 31 4 DenS LK default C w v kids) {l i s : Int} (hl : I64 l) (hi : I64 i) (hs : I64 s) :
  DenS (fun q => C ≤ q ∧ q < w.heap.size) w [.int .i64 l, .int .i64 i, v, .int .i64 s] (.mk l i kids s) := by
 have hlt := h.lt
 have hr := h.isRecs denSK (R' := fun B w c d => True) (fun _ _ _ _ _ => trivial)
 obtain ⟨vals, ⟨hl', h1⟩, h2, h3, h4⟩ := h
 have hvl := OwnDeep.vals_len denSK h2 h4
 rcases h1 with ⟨rfl, hn⟩ | ⟨g, cap, cur, rfl, hb, hg, hnc, hcm, hcs, htk⟩
 ·exact .mk l i s kids _ 0 0 0 (fun _ => []) ⟨none, by rw [hn], by omega, by omega, Or.inr hn⟩ h3 hl hi hs (fun j hj => by omega) (fun j hj => by omega)
 ·have hgl := (Array.getElem?_eq_some_iff.1 hg).1
  refine .mk l i s kids _ g 0 cap (fun j => vals.getD j []) ⟨some ⟨g, 0, none⟩, rfl, hnc, by unfold maxLen at hcm; omega, Or.inl rfl⟩ h3 hl hi hs (fun j hj => ⟨hlt g rfl, fun q u hq => ?_⟩) (fun j hj => ?_)
  ·obtain ⟨S, s1, s2⟩ := h4 j hj
   have hq' : q < 4 := by
    have h5 := denSK.len s2
    have := (List.getElem?_eq_some_iff.1 hq).1
    omega
   have hf := flat_getK hvl j q (by omega) hq'
   rw [hq] at hf
   have hlt2 : j * 4 + q < kids.length * 4 := by omega
   simp only [World.cell?, hg, Nat.zero_add]
   have : (cur.toList.take (kids.length * 4))[j * 4 + q]? = vals.flatten[j * 4 + q]? := by rw [htk]
   rw [List.getElem?_take, if_pos hlt2, hf] at this
   simpa using this
  ·obtain ⟨S, s1, s2⟩ := h4 j hj
   exact s2.mono (fun q hq => ⟨(s1 q hq).1, (s1 q hq).2.1⟩)
def zeroD : Array Value := #[.int .i64 0, .int .i64 0, .slice none 0 0, .int .i64 0]
/-- x4: the state; x5: the pair; x6: moved; x7, x8: its parts; x9: the box; x11: its second part -/
structure DenR (WA : World) (P7 : World → Value → Prop) (d : Den) (R : Bool) (b4 b5 b6 b7 b8 b9 b10 b11 : Bool) (x4 x5 x6 x7 x8 x9 x11 : Value) (w : World) : Prop where
 hb : Below WA.heap.size WA w
 h4 : b4 = true → b5 = false → P7 w x4
 h5 : b5 = true → ∃ c0 c1 c2 c3, ∃ S : Nat → Prop, (∀ q, S q → WA.heap.size ≤ q ∧ q < w.heap.size ∧ (b9 = true → x9 ≠ .pointer (some ⟨q, 0, none⟩))) ∧ DenS S w [c0, c1, c2, c3] d ∧ x5 = .tuple #[.agg #[c0, c1, c2, c3], .bool R] ∧
  (b6 = true → x6 = .tuple #[.agg #[c0, c1, c2, c3], .bool R]) ∧ (b7 = true → x7 = .agg #[c0, c1, c2, c3]) ∧ (b8 = true → x8 = .bool R) ∧ (b11 = true → x11 = .bool R) ∧ (b10 = true → ∃ q, x9 = .pointer (some ⟨q, 0, none⟩) ∧ CellsN w q #[c0, c1, c2, c3])
 h9 : b9 = true → ∃ q, x9 = .pointer (some ⟨q, 0, none⟩) ∧ WA.heap.size ≤ q ∧ q < w.heap.size ∧ (b10 = false → CellsN w q zeroD)
 c6 : b6 = true → b5 = true
 c7 : b7 = true → b6 = true
 c8 : b8 = true → b6 = true
 c10 : b10 = true → b7 = true ∧ b9 = true
 c11 : b11 = true → b8 = true
section
variable {WA : World} {P7 : World → Value → Prop} {d : Den} {R : Bool} {b4 b5 b6 b7 b8 b9 b10 b11 : Bool} {x4 x5 x6 x7 x8 x9 x11 : Value} {w : World}
theorem DenR.start (hb : Below WA.heap.size WA w) : DenR WA P7 d R false false false false false false false false x4 x5 x6 x7 x8 x9 x11 w :=
 {hb := hb, h4 := (fun h => by cases h), h5 := (fun h => by cases h), h9 := (fun h => by cases h), c6 := (fun h => by cases h), c7 := (fun h => by cases h), c8 := (fun h => by cases h), c10 := (fun h => by cases h), c11 := (fun h => by cases h) }
variable (h : DenR WA P7 d R b4 b5 b6 b7 b8 b9 b10 b11 x4 x5 x6 x7 x8 x9 x11 w)
include h
theorem DenR.n (e : b5 = false) : b6 = false ∧ b7 = false ∧ b8 = false ∧ b10 = false ∧ b11 = false := by
 have h6 : b6 = false := by
  cases e5 : b6 with
  | false => rfl
  | true => have := h.c6 e5; rw [e] at this; cases this
 have h7 : b7 = false := by
  cases e5 : b7 with
  | false => rfl
  | true => have := h.c7 e5; rw [h6] at this; cases this
 have h8 : b8 = false := by
  cases e5 : b8 with
  | false => rfl
  | true => have := h.c8 e5; rw [h6] at this; cases this
 refine ⟨h6, h7, h8, ?_, ?_⟩
 ·cases e5 : b10 with
  | false => rfl
  | true => have := (h.c10 e5).1; rw [h7] at this; cases this
 ·cases e5 : b11 with
  | false => rfl
  | true => have := h.c11 e5; rw [h8] at this; cases this
theorem DenR.s5 (hi : b5 = false) {w' : World} (hb : Below w.heap.size w w') {c0 c1 c2 c3 : Value} (hd : DenS (fun q => w.heap.size ≤ q ∧ q < w'.heap.size) w' [c0, c1, c2, c3] d) : DenR WA P7 d R b4 true b6 b7 b8 b9 b10 b11 x4 (.tuple #[.agg #[c0, c1, c2, c3], .bool R]) x6 x7 x8 x9 x11 w' := by
 obtain ⟨n6, n7, n8, n10, n11⟩ := h.n hi
 subst n6 n7 n8 n10 n11
 exact {
  hb := h.hb.trans (hb.mono h.hb.size), h4 := (fun _ e => by cases e)
  h5 := (fun e => ⟨c0, c1, c2, c3, _, fun q hq => ⟨Nat.le_trans h.hb.size hq.1, hq.2, fun e9 e => by
   obtain ⟨q', q1, q2, q3, q4⟩ := h.h9 e9
   rw [q1] at e
   have : q' = q := by cases e; rfl
   omega⟩, hd, rfl, (fun e => by cases e), (fun e => by cases e), (fun e => by cases e), (fun e => by cases e), (fun e => by cases e)⟩)
  h9 := (fun e => by obtain ⟨q, q1, q2, q3, q4⟩ := h.h9 e; exact ⟨q, q1, q2, Nat.lt_of_lt_of_le q3 hb.size, fun e => (q4 e).ext hb⟩), c6 := (fun _ => rfl), c7 := h.c7, c8 := h.c8, c10 := h.c10, c11 := h.c11 }
theorem DenR.s6 (d5 : b5 = true) : DenR WA P7 d R b4 b5 true b7 b8 b9 b10 b11 x4 x5 x5 x7 x8 x9 x11 w :=
 {hb := h.hb, h4 := h.h4
  h5 := (fun e => by
   obtain ⟨c0, c1, c2, c3, S, hS, a1, a2, a3, a4, a5, a6, a7⟩ := h.h5 e
   exact ⟨c0, c1, c2, c3, S, hS, a1, a2, (fun _ => a2), a4, a5, a6, a7⟩)
  h9 := h.h9, c6 := (fun _ => d5), c7 := (fun _ => rfl), c8 := (fun _ => rfl), c10 := h.c10, c11 := h.c11 }
theorem DenR.s7 (d6 : b6 = true) {c0 c1 c2 c3 : Value} (he : x6 = .tuple #[.agg #[c0, c1, c2, c3], .bool R]) : DenR WA P7 d R b4 b5 b6 true b8 b9 b10 b11 x4 x5 x6 (.agg #[c0, c1, c2, c3]) x8 x9 x11 w :=
 {hb := h.hb, h4 := h.h4
  h5 := (fun e => by
   obtain ⟨y0, y1, y2, y3, S, hS, a1, a2, a3, a4, a5, a6, a7⟩ := h.h5 e
   have h1 := a3 d6
   rw [he] at h1
   obtain ⟨rfl, rfl, rfl, rfl⟩ : c0 = y0 ∧ c1 = y1 ∧ c2 = y2 ∧ c3 = y3 := by simpa using h1
   exact ⟨_, _, _, _, S, hS, a1, a2, a3, (fun _ => rfl), a5, a6, a7⟩)
  h9 := h.h9, c6 := h.c6, c7 := (fun _ => d6), c8 := h.c8, c10 := (fun e => ⟨rfl, (h.c10 e).2⟩), c11 := h.c11 }
theorem DenR.s8 (d6 : b6 = true) : DenR WA P7 d R b4 b5 b6 b7 true b9 b10 b11 x4 x5 x6 x7 (.bool R) x9 x11 w :=
 {hb := h.hb, h4 := h.h4
  h5 := (fun e => by
   obtain ⟨y0, y1, y2, y3, S, hS, a1, a2, a3, a4, a5, a6, a7⟩ := h.h5 e
   exact ⟨_, _, _, _, S, hS, a1, a2, a3, a4, (fun _ => rfl), a6, a7⟩)
  h9 := h.h9, c6 := h.c6, c7 := h.c7, c8 := (fun _ => d6), c10 := h.c10, c11 := (fun _ => rfl) }
end
end Go.Proofs.Yteiaeaciaglmgaa
set_option linter.unusedVariables false
set_option linter.unusedSimpArgs false
namespace Go.Proofs.Yteiaeaciaglmgaa
open Go.RowKit
theorem ins_small {f : Flow} (hc : checkE f = 0) {k : Nat} (hk : k < f.lots.length) : (lotAt f.lots k).ins.length ≤ 50000 := by
 have h1 := before_bd hc (k := k) (by omega)
 have h2 := before_bd hc (k := k + 1) (by omega)
 have h3 : beforeI f (k + 1) = beforeI f k + (lotAt f.lots k).ins.length := rfl
 omega
end Go.Proofs.Yteiaeaciaglmgaa
set_option linter.unusedVariables false
set_option linter.unusedSimpArgs false
namespace Go.Proofs.Yteiaeaciaglmgaa
open Go.RowKit
theorem DenS.grown {S : Nat → Prop} {w w' : World} {c : List Value} {d : Den} {row : Option Nat} (h : DenS S w c d) (hg : w.grownBy w' row) (hS : ∀ q, S q → q < w.heap.size ∧ row ≠ some q) : DenS S w' c d :=
 h.keep (fun q hq => hg.block q (hS q hq).1 (fun e => (hS q hq).2 e.symm))
end Go.Proofs.Yteiaeaciaglmgaa
set_option linter.unusedVariables false
set_option linter.unusedSimpArgs false
namespace Go.Proofs.Yteiaeaciaglmgaa
open Go.RowKit
def IsDen (B : Nat) (w : World) (c : List Value) (d : Den) : Prop := DenS (fun q => q < B) w c d
theorem IsDen.below {B B' : Nat} {w w' : World} {c : List Value} {d : Den} (h : IsDen B w c d) (hb : Below B' w w') (hB : B ≤ B') : IsDen B w' c d := h.keep (fun q hq => hb.block q (by omega))
theorem IsDen.mono {B B' : Nat} {w : World} {c : List Value} {d : Den} (h : IsDen B w c d) (hB : B ≤ B') : IsDen B' w c d := DenS.mono h (fun q hq => by omega)
end Go.Proofs.Yteiaeaciaglmgaa
set_option linter.unusedVariables false
set_option linter.unusedSimpArgs false
namespace Go.Proofs.Yteiaeaciaglmgaa
open Go.RowKit
theorem den_lt {d : Den} {j : Nat} (hj : j < d.kids.length) : SizeOf.sizeOf (denAt d.kids j) < SizeOf.sizeOf d := by
 cases d with
 | mk l i kids s =>
  have hj' : j < kids.length := hj
  have h1 : denAt kids j = kids[j] := by unfold denAt; rw [List.getD_eq_getElem?_getD, List.getElem?_eq_getElem hj']; rfl
  have h2 := List.sizeOf_lt_of_mem (List.getElem_mem hj')
  show SizeOf.sizeOf (denAt kids j) < _
  rw [h1]
  simp only [Den.mk.sizeOf_spec]
  omega
set_option maxHeartbeats 4000000 in
set_option maxRecDepth 100000 in
theorem same29_step (B : Nat) (w : World) (cd cd2 : List Value) (p : Den) (hd : IsDen B w cd p) (hd2 : IsDen B w cd2 p) (hB : B ≤ w.heap.size)
  (hih : ∀ (j : Nat) (W' : World) (k1 k2 : List Value), j < p.kids.length → Below w.heap.size w W' → IsDen B W' k1 (denAt p.kids j) → IsDen B W' k2 (denAt p.kids j) →
   Calls Try.prog 20 #[.agg k1.toArray, .agg k2.toArray] W' fun e w' => e = .returned (.bool true) ∧ Below W'.heap.size W' w') :
  Calls Try.prog 20 #[.agg cd.toArray, .agg cd2.toArray] w fun e w' => e = .returned (.bool true) ∧ Below w.heap.size w w' := by
 obtain ⟨ak, ck, rfl, _, _, _, hkl, bk, ok, hak, hkk⟩ := hd.form
 obtain ⟨ak2, ck2, rfl, _, _, _, _, bk2, ok2, hak2, hkk2⟩ := hd2.form
 have HKK := Lib.hid hkk
 have HAK := Lib.hid hak
 have HKK2 := Lib.hid hkk2
 have HAK2 := Lib.hid hak2
 have HIH := Lib.hid hih
 unfold LK at hkl
 obtain ⟨l, hl⟩ : ∃ x, p.lot = x := ⟨_, rfl⟩
 obtain ⟨i, hi⟩ : ∃ x, p.inn = x := ⟨_, rfl⟩
 obtain ⟨s, hs⟩ : ∃ x, p.sender = x := ⟨_, rfl⟩
 obtain ⟨nk, hnk⟩ : ∃ x, p.kids.length = x := ⟨_, rfl⟩
 rw [hl, hi, hs, hnk]
 rw [hnk] at HAK HAK2 HKK HKK2 HIH hkl
 clear hd hd2 hak hak2 hkk hkk2 hih hl hi hs hnk
 go_enter Try.func20, Try.ntmps20
 go_upto_region 1 with fail
 refine wp_name (fun W1 hW1 => ?_)
 have HX1 : Hid (Box W1 w.heap.size #[.int .i64 l, .int .i64 i, .slice ak nk ck, .int .i64 s]) := Lib.hid (by rw [hW1]; exact (Box.new w #[.int .i64 l, .int .i64 i, .slice ak nk ck, .int .i64 s] 31).alloc _)
 have HY1 : Hid (Box W1 (w.heap.size + 1) #[.int .i64 l, .int .i64 i, .slice ak2 nk ck2, .int .i64 s]) := Lib.hid (by
  rw [hW1]
  have h := Box.new (w.alloc (.cells #[.int .i64 l, .int .i64 i, .slice ak nk ck, .int .i64 s] 31)) #[.int .i64 l, .int .i64 i, .slice ak2 nk ck2, .int .i64 s] 31
  rw [World.size_alloc] at h
  exact h)
 have HW1 : Hid (Below w.heap.size w W1) := Lib.hid (by rw [hW1]; exact (box_below' w _).trans ((box_below' _ _).mono (by simp)))
 clear hW1
 have r1 := HX1.out.2
 have d1 := HY1.out.2
 have hl0 : (l != l) = false := by simp
 have hi0 : (i != i) = false := by simp
 have hs0 : (s != s) = false := by simp
 have hn0 : ((nk : Int) != (nk : Int)) = false := by simp
 go_wp2
 clear r1 d1
 go_loopw [5] (fun i' wr => ∃ j : Nat, j ≤ nk ∧ i' = .int .i64 j ∧ Below W1.heap.size W1 wr) (fun i' _ => nk - (intOf i').toNat)
 case atStart => exact ⟨0, by omega, rfl, Below.refl _ _⟩
 case round =>
  obtain ⟨j, hj, rfl, hb1⟩ := hrel
  have HB1 := Lib.hid hb1
  have HBR : Hid (Below w.heap.size w wr) := Lib.hid (HW1.out.trans (hb1.mono HW1.out.size))
  have HXR := Lib.hid (HX1.out.ext hb1)
  have HYR := Lib.hid (HY1.out.ext hb1)
  have r4 := HXR.out.2
  have d4 := HYR.out.2
  clear hb1
  by_cases hlt : j < nk
  ·obtain rfl : ak = some ⟨bk, ok, none⟩ := by rcases HAK.out with h | h; exact h; omega
   obtain rfl : ak2 = some ⟨bk2, ok2, none⟩ := by rcases HAK2.out with h | h; exact h; omega
   obtain ⟨hbk, cs, hcs, hds⟩ := HKK.out j hlt
   obtain ⟨hbk2, cs2, hcs2, hds2⟩ := HKK2.out j hlt
   have HDS := Lib.hid hds
   have HDS2 := Lib.hid hds2
   have hbq : bk < B := hbk
   have hbq2 : bk2 < B := hbk2
   obtain ⟨aq, cq, hce, _⟩ := hds.form
   obtain ⟨aq2, cq2, hce2, _⟩ := hds2.form
   obtain ⟨y0, y1, y3, nq, hy0⟩ : ∃ y0 y1 y3 nq, cs = [.int .i64 y0, .int .i64 y1, .slice aq nq cq, .int .i64 y3] := ⟨_, _, _, _, hce⟩
   obtain ⟨z0, z1, z3, nq2, hz0⟩ : ∃ y0 y1 y3 nq, cs2 = [.int .i64 y0, .int .i64 y1, .slice aq2 nq cq2, .int .i64 y3] := ⟨_, _, _, _, hce2⟩
   subst hy0 hz0
   have HKC : Hid (∀ W', Below w.heap.size w W' → W'.cell? ⟨bk, ok + j * 4, none⟩ = some (.int .i64 y0) ∧ W'.cell? ⟨bk, ok + j * 4 + 1, none⟩ = some (.int .i64 y1) ∧ W'.cell? ⟨bk, ok + j * 4 + 2, none⟩ = some (.slice aq nq cq) ∧ W'.cell? ⟨bk, ok + j * 4 + 3, none⟩ = some (.int .i64 y3)) := Lib.hid fun W' hW' =>
    ⟨(hW'.cell (p := ⟨bk, ok + j * 4, none⟩) (by show bk < _; omega)).trans (hcs 0 _ rfl), (hW'.cell (p := ⟨bk, ok + j * 4 + 1, none⟩) (by show bk < _; omega)).trans (hcs 1 _ rfl), (hW'.cell (p := ⟨bk, ok + j * 4 + 2, none⟩) (by show bk < _; omega)).trans (hcs 2 _ rfl), (hW'.cell (p := ⟨bk, ok + j * 4 + 3, none⟩) (by show bk < _; omega)).trans (hcs 3 _ rfl)⟩
   have HKC2 : Hid (∀ W', Below w.heap.size w W' → W'.cell? ⟨bk2, ok2 + j * 4, none⟩ = some (.int .i64 z0) ∧ W'.cell? ⟨bk2, ok2 + j * 4 + 1, none⟩ = some (.int .i64 z1) ∧ W'.cell? ⟨bk2, ok2 + j * 4 + 2, none⟩ = some (.slice aq2 nq2 cq2) ∧ W'.cell? ⟨bk2, ok2 + j * 4 + 3, none⟩ = some (.int .i64 z3)) := Lib.hid fun W' hW' =>
    ⟨(hW'.cell (p := ⟨bk2, ok2 + j * 4, none⟩) (by show bk2 < _; omega)).trans (hcs2 0 _ rfl), (hW'.cell (p := ⟨bk2, ok2 + j * 4 + 1, none⟩) (by show bk2 < _; omega)).trans (hcs2 1 _ rfl), (hW'.cell (p := ⟨bk2, ok2 + j * 4 + 2, none⟩) (by show bk2 < _; omega)).trans (hcs2 2 _ rfl), (hW'.cell (p := ⟨bk2, ok2 + j * 4 + 3, none⟩) (by show bk2 < _; omega)).trans (hcs2 3 _ rfl)⟩
   have HIW : Hid (∀ W', Below wr.heap.size wr W' → W'.cell? ⟨w.heap.size, 2, none⟩ = some (.slice (some ⟨bk, ok, none⟩) nk ck) ∧ W'.cell? ⟨w.heap.size + 1, 2, none⟩ = some (.slice (some ⟨bk2, ok2, none⟩) nk ck2)) := Lib.hid fun W' hW' => ⟨(HXR.out.ext hW').2 2, (HYR.out.ext hW').2 2⟩
   have HCL : Hid (∀ W', Below wr.heap.size wr W' → Calls Try.prog 20 #[.agg #[.int .i64 y0, .int .i64 y1, .slice aq nq cq, .int .i64 y3], .agg #[.int .i64 z0, .int .i64 z1, .slice aq2 nq2 cq2, .int .i64 z3]] W' fun e w' => e = .returned (.bool true) ∧ Below W'.heap.size W' w') := Lib.hid fun W' hW' => by
    have hWW := HBR.out.trans (hW'.mono HBR.out.size)
    exact HIH.out j W' [.int .i64 y0, .int .i64 y1, .slice aq nq cq, .int .i64 y3] [.int .i64 z0, .int .i64 z1, .slice aq2 nq2 cq2, .int .i64 z3] hlt hWW (IsDen.below HDS.out hWW hB) (IsDen.below HDS2.out hWW hB)
   obtain ⟨wq, rfl⟩ : ∃ W', W' = wr := ⟨_, rfl⟩
   clear hce hce2 hcs hcs2 hds hds2
   go_upto_region 6 with fail
   clear r4 d4
   obtain ⟨V, hV⟩ : ∃ V : List (Option Value), V = [some (.pointer (some ⟨w.heap.size, 2, none⟩)), some (.slice (some ⟨bk, ok, none⟩) nk ck), some (.int .i64 (j : Int)), some (.pointer (some ⟨bk, ok + j * 4, none⟩)), some (.agg #[.int .i64 y0, .int .i64 y1, .slice aq nq cq, .int .i64 y3]), some (.pointer (some ⟨w.heap.size + 1, 2, none⟩)), some (.slice (some ⟨bk2, ok2, none⟩) nk ck2), some (.int .i64 (j : Int)), some (.pointer (some ⟨bk2, ok2 + j * 4, none⟩)), some (.agg #[.int .i64 z0, .int .i64 z1, .slice aq2 nq2 cq2, .int .i64 z3]), some (.bool true), some (.bool false)] := ⟨_, rfl⟩
   have HVV := Lib.hid hV
   clear hV
   refine wp_region_V [some 41, some 42, some 43, some 44, some 45, some 46, some 47, some 48, some 49, some 50, some 51, some 52] (fun L w' xs => ValsAt V L xs ∧ (Below wq.heap.size wq w')) (by kernel_rfl) (by kernel_rfl) (by rfl) (by rfl) (by rfl) ?_ ?_ ?_
   focus
    exact fun xs => ⟨ValsAt.none _ _, (Below.refl _ _).drew⟩
   focus
    refine ⟨?_, ?_, ?_, ?_, ?_, ?_, ?_, ?_, ?_, ?_, ?_, ?_, trivial⟩
    all_goals
     intro L a' w' xs hi hd hf hJ K hK
     obtain ⟨hv, hb⟩ := hJ
     have HF := Lib.hid hf
     have HVA := Lib.hid hv
     have HLI := Lib.hid hi
     clear hf hv hi
    focus
     clear hd
     obtain ⟨ρ, hρ⟩ : ∃ ρ, a'.eval = ρ := ⟨_, rfl⟩
     have hcst : ∀ v, ρ (.const v) = v := fun v => (congrFun hρ (.const v)).symm
     have l2 : ρ (.tmp 2) = .pointer (some ⟨w.heap.size, 0, none⟩) := (congrFun hρ (.tmp 2)).symm.trans (HF.out.lo 2 rfl)
     rw [if_pos (by simp [Region.wanted])]
     unfold Oper.wp
     rw [hρ]
     clear hρ
     go_simp
     exact hK.out _ _ ⟨HVA.out.set (i := 0) (by rw [HVV.out]; rfl), hb⟩
    focus
     obtain ⟨d0, _⟩ := hd
     obtain ⟨ρ, hρ⟩ : ∃ ρ, a'.eval = ρ := ⟨_, rfl⟩
     have hcst : ∀ v, ρ (.const v) = v := fun v => (congrFun hρ (.const v)).symm
     have v0 : ρ (.tmp 41) = .pointer (some ⟨w.heap.size, 2, none⟩) := (congrFun hρ (.tmp 41)).symm.trans ((HF.out.ev 0 rfl d0).trans (HVA.out 0 _ (by rw [HVV.out]; rfl) d0))
     obtain ⟨k0, k1⟩ := HIW.out _ hb
     rw [if_pos (by simp [Region.wanted])]
     unfold Oper.wp
     rw [hρ]
     clear hρ
     go_simp
     exact hK.out _ _ ⟨HVA.out.set (i := 1) (by rw [HVV.out]; rfl), hb⟩
    focus
     clear hd
     obtain ⟨ρ, hρ⟩ : ∃ ρ, a'.eval = ρ := ⟨_, rfl⟩
     have hcst : ∀ v, ρ (.const v) = v := fun v => (congrFun hρ (.const v)).symm
     have l5 : ρ (.tmp 5) = .int .i64 (j : Int) := (congrFun hρ (.tmp 5)).symm.trans (HF.out.lo 5 rfl)
     rw [if_pos (by simp [Region.wanted])]
     unfold Oper.wp
     rw [hρ]
     clear hρ
     go_simp
     exact hK.out _ _ ⟨HVA.out.set (i := 2) (by rw [HVV.out]; rfl), hb⟩
    focus
     obtain ⟨d1, d2, _⟩ := hd
     obtain ⟨ρ, hρ⟩ : ∃ ρ, a'.eval = ρ := ⟨_, rfl⟩
     have hcst : ∀ v, ρ (.const v) = v := fun v => (congrFun hρ (.const v)).symm
     have v1 : ρ (.tmp 42) = .slice (some ⟨bk, ok, none⟩) nk ck := (congrFun hρ (.tmp 42)).symm.trans ((HF.out.ev 1 rfl d1).trans (HVA.out 1 _ (by rw [HVV.out]; rfl) d1))
     have v2 : ρ (.tmp 43) = .int .i64 (j : Int) := (congrFun hρ (.tmp 43)).symm.trans ((HF.out.ev 2 rfl d2).trans (HVA.out 2 _ (by rw [HVV.out]; rfl) d2))
     rw [if_pos (by simp [Region.wanted])]
     unfold Oper.wp
     rw [hρ]
     clear hρ
     go_simp
     exact hK.out _ _ ⟨HVA.out.set (i := 3) (by rw [HVV.out]; rfl), hb⟩
    focus
     obtain ⟨d3, _⟩ := hd
     obtain ⟨ρ, hρ⟩ : ∃ ρ, a'.eval = ρ := ⟨_, rfl⟩
     have hcst : ∀ v, ρ (.const v) = v := fun v => (congrFun hρ (.const v)).symm
     have v3 : ρ (.tmp 44) = .pointer (some ⟨bk, ok + j * 4, none⟩) := (congrFun hρ (.tmp 44)).symm.trans ((HF.out.ev 3 rfl d3).trans (HVA.out 3 _ (by rw [HVV.out]; rfl) d3))
     obtain ⟨e0, e1, e2, e3⟩ := HKC.out _ (HBR.out.trans (hb.mono HBR.out.size))
     rw [if_pos (by simp [Region.wanted])]
     unfold Oper.wp
     rw [hρ]
     clear hρ
     go_simp
     exact hK.out _ _ ⟨HVA.out.set (i := 4) (by rw [HVV.out]; rfl), hb⟩
    focus
     clear hd
     obtain ⟨ρ, hρ⟩ : ∃ ρ, a'.eval = ρ := ⟨_, rfl⟩
     have hcst : ∀ v, ρ (.const v) = v := fun v => (congrFun hρ (.const v)).symm
     have l3 : ρ (.tmp 3) = .pointer (some ⟨w.heap.size + 1, 0, none⟩) := (congrFun hρ (.tmp 3)).symm.trans (HF.out.lo 3 rfl)
     rw [if_pos (by simp [Region.wanted])]
     unfold Oper.wp
     rw [hρ]
     clear hρ
     go_simp
     exact hK.out _ _ ⟨HVA.out.set (i := 5) (by rw [HVV.out]; rfl), hb⟩
    focus
     obtain ⟨d5, _⟩ := hd
     obtain ⟨ρ, hρ⟩ : ∃ ρ, a'.eval = ρ := ⟨_, rfl⟩
     have hcst : ∀ v, ρ (.const v) = v := fun v => (congrFun hρ (.const v)).symm
     have v5 : ρ (.tmp 46) = .pointer (some ⟨w.heap.size + 1, 2, none⟩) := (congrFun hρ (.tmp 46)).symm.trans ((HF.out.ev 5 rfl d5).trans (HVA.out 5 _ (by rw [HVV.out]; rfl) d5))
     obtain ⟨k0, k1⟩ := HIW.out _ hb
     rw [if_pos (by simp [Region.wanted])]
     unfold Oper.wp
     rw [hρ]
     clear hρ
     go_simp
     exact hK.out _ _ ⟨HVA.out.set (i := 6) (by rw [HVV.out]; rfl), hb⟩
    focus
     clear hd
     obtain ⟨ρ, hρ⟩ : ∃ ρ, a'.eval = ρ := ⟨_, rfl⟩
     have hcst : ∀ v, ρ (.const v) = v := fun v => (congrFun hρ (.const v)).symm
     have l5 : ρ (.tmp 5) = .int .i64 (j : Int) := (congrFun hρ (.tmp 5)).symm.trans (HF.out.lo 5 rfl)
     rw [if_pos (by simp [Region.wanted])]
     unfold Oper.wp
     rw [hρ]
     clear hρ
     go_simp
     exact hK.out _ _ ⟨HVA.out.set (i := 7) (by rw [HVV.out]; rfl), hb⟩
    focus
     obtain ⟨d6, d7, _⟩ := hd
     obtain ⟨ρ, hρ⟩ : ∃ ρ, a'.eval = ρ := ⟨_, rfl⟩
     have hcst : ∀ v, ρ (.const v) = v := fun v => (congrFun hρ (.const v)).symm
     have v6 : ρ (.tmp 47) = .slice (some ⟨bk2, ok2, none⟩) nk ck2 := (congrFun hρ (.tmp 47)).symm.trans ((HF.out.ev 6 rfl d6).trans (HVA.out 6 _ (by rw [HVV.out]; rfl) d6))
     have v7 : ρ (.tmp 48) = .int .i64 (j : Int) := (congrFun hρ (.tmp 48)).symm.trans ((HF.out.ev 7 rfl d7).trans (HVA.out 7 _ (by rw [HVV.out]; rfl) d7))
     rw [if_pos (by simp [Region.wanted])]
     unfold Oper.wp
     rw [hρ]
     clear hρ
     go_simp
     exact hK.out _ _ ⟨HVA.out.set (i := 8) (by rw [HVV.out]; rfl), hb⟩
    focus
     obtain ⟨d8, _⟩ := hd
     obtain ⟨ρ, hρ⟩ : ∃ ρ, a'.eval = ρ := ⟨_, rfl⟩
     have hcst : ∀ v, ρ (.const v) = v := fun v => (congrFun hρ (.const v)).symm
     have v8 : ρ (.tmp 49) = .pointer (some ⟨bk2, ok2 + j * 4, none⟩) := (congrFun hρ (.tmp 49)).symm.trans ((HF.out.ev 8 rfl d8).trans (HVA.out 8 _ (by rw [HVV.out]; rfl) d8))
     obtain ⟨e0, e1, e2, e3⟩ := HKC2.out _ (HBR.out.trans (hb.mono HBR.out.size))
     rw [if_pos (by simp [Region.wanted])]
     unfold Oper.wp
     rw [hρ]
     clear hρ
     go_simp
     exact hK.out _ _ ⟨HVA.out.set (i := 9) (by rw [HVV.out]; rfl), hb⟩
    focus
     obtain ⟨d4, d9, _⟩ := hd
     obtain ⟨ρ, hρ⟩ : ∃ ρ, a'.eval = ρ := ⟨_, rfl⟩
     have hcst : ∀ v, ρ (.const v) = v := fun v => (congrFun hρ (.const v)).symm
     have hfun : ∀ k, ρ (.func k) = .func (.func k) #[] #[] := fun k => (congrFun hρ (.func k)).symm
     have v4 : ρ (.tmp 45) = .agg #[.int .i64 y0, .int .i64 y1, .slice aq nq cq, .int .i64 y3] := (congrFun hρ (.tmp 45)).symm.trans ((HF.out.ev 4 rfl d4).trans (HVA.out 4 _ (by rw [HVV.out]; rfl) d4))
     have v9 : ρ (.tmp 50) = .agg #[.int .i64 z0, .int .i64 z1, .slice aq2 nq2 cq2, .int .i64 z3] := (congrFun hρ (.tmp 50)).symm.trans ((HF.out.ev 9 rfl d9).trans (HVA.out 9 _ (by rw [HVV.out]; rfl) d9))
     rw [if_pos (by simp [Region.wanted])]
     unfold Oper.wp
     rw [hρ]
     clear hρ
     go_simp
     go_at_call 20
     refine (HCL.out _ hb).mono ?_
     rintro en w5' ⟨rfl, hb5⟩
     exact hK.out _ _ ⟨HVA.out.set (i := 10) (by rw [HVV.out]; rfl), hb.trans (hb5.mono hb.size)⟩
    focus
     obtain ⟨d10, _⟩ := hd
     obtain ⟨ρ, hρ⟩ : ∃ ρ, a'.eval = ρ := ⟨_, rfl⟩
     have hcst : ∀ v, ρ (.const v) = v := fun v => (congrFun hρ (.const v)).symm
     have v10 : ρ (.tmp 51) = .bool true := (congrFun hρ (.tmp 51)).symm.trans ((HF.out.ev 10 rfl d10).trans (HVA.out 10 _ (by rw [HVV.out]; rfl) d10))
     rw [if_pos (by simp [Region.wanted])]
     unfold Oper.wp
     rw [hρ]
     clear hρ
     go_simp
     exact hK.out _ _ ⟨HVA.out.set (i := 11) (by rw [HVV.out]; rfl), hb⟩
   focus
    intro L w' xs hL hJ
    obtain ⟨hv, hb⟩ := hJ
    have e0 : xs 0 = .pointer (some ⟨w.heap.size, 2, none⟩) := hv 0 _ (by rw [HVV.out]; rfl) (hL 0 (by decide))
    have e1 : xs 1 = .slice (some ⟨bk, ok, none⟩) nk ck := hv 1 _ (by rw [HVV.out]; rfl) (hL 1 (by decide))
    have e2 : xs 2 = .int .i64 (j : Int) := hv 2 _ (by rw [HVV.out]; rfl) (hL 2 (by decide))
    have e3 : xs 3 = .pointer (some ⟨bk, ok + j * 4, none⟩) := hv 3 _ (by rw [HVV.out]; rfl) (hL 3 (by decide))
    have e4 : xs 4 = .agg #[.int .i64 y0, .int .i64 y1, .slice aq nq cq, .int .i64 y3] := hv 4 _ (by rw [HVV.out]; rfl) (hL 4 (by decide))
    have e5 : xs 5 = .pointer (some ⟨w.heap.size + 1, 2, none⟩) := hv 5 _ (by rw [HVV.out]; rfl) (hL 5 (by decide))
    have e6 : xs 6 = .slice (some ⟨bk2, ok2, none⟩) nk ck2 := hv 6 _ (by rw [HVV.out]; rfl) (hL 6 (by decide))
    have e7 : xs 7 = .int .i64 (j : Int) := hv 7 _ (by rw [HVV.out]; rfl) (hL 7 (by decide))
    have e8 : xs 8 = .pointer (some ⟨bk2, ok2 + j * 4, none⟩) := hv 8 _ (by rw [HVV.out]; rfl) (hL 8 (by decide))
    have e9 : xs 9 = .agg #[.int .i64 z0, .int .i64 z1, .slice aq2 nq2 cq2, .int .i64 z3] := hv 9 _ (by rw [HVV.out]; rfl) (hL 9 (by decide))
    have e10 : xs 10 = .bool true := hv 10 _ (by rw [HVV.out]; rfl) (hL 10 (by decide))
    have e11 : xs 11 = .bool false := hv 11 _ (by rw [HVV.out]; rfl) (hL 11 (by decide))
    simp only [putGo, Act.put, List.setIfInBounds_toArray, List.set_cons_zero, List.set_cons_succ, e0, e1, e2, e3, e4, e5, e6, e7, e8, e9, e10, e11]
    clear hv e0 e1 e2 e3 e4 e5 e6 e7 e8 e9 e10 e11
    have hb' := hb
    obtain ⟨WC, rfl⟩ : ∃ W', W' = w' := ⟨_, rfl⟩
    have HBC5 := Lib.hid (HB1.out.trans (hb'.mono HB1.out.size))
    clear hb hb' hL
    go_wp2
    go_roundw
    case rel => exact ⟨j + 1, by omega, by go_num, HBC5.out⟩
    case measure => simp [intOf]; omega
  ·obtain rfl : j = nk := by omega
   go_wp2
   go_ret
   exact ⟨rfl, HBR.out⟩
/-- frankingref29.Same, of two pictures of one denial -/
theorem same29_any : ∀ (n B : Nat) (w : World) (cd cd2 : List Value) (p : Den), SizeOf.sizeOf p ≤ n → IsDen B w cd p → IsDen B w cd2 p → B ≤ w.heap.size →
  Calls Try.prog 20 #[.agg cd.toArray, .agg cd2.toArray] w fun e w' => e = .returned (.bool true) ∧ Below w.heap.size w w' := by
 intro n
 induction n with
 | zero =>
  intro B w cd cd2 p hn
  cases p with
  | mk l i k s => simp only [Den.mk.sizeOf_spec] at hn; omega
 | succ n ih =>
  intro B w cd cd2 p hn hd hd2 hB
  exact same29_step B w cd cd2 p hd hd2 hB (fun j W' k1 k2 hj hW' h1 h2 => ih B W' k1 k2 _ (by have := den_lt hj; omega) h1 h2 (Nat.le_trans hB hW'.size))
set_option maxHeartbeats 4000000 in
set_option maxRecDepth 100000 in
theorem size29_step (B : Nat) (w : World) (cd : List Value) (p : Den) (most : Nat) (hd : IsDen B w cd p) (hB : B ≤ w.heap.size) (hm1 : 1 ≤ most) (hm2 : most ≤ 100000)
  (hih : ∀ (j m : Nat) (W' : World) (k1 : List Value), j < p.kids.length → Below w.heap.size w W' → IsDen B W' k1 (denAt p.kids j) → 1 ≤ m → m ≤ 100000 →
   Calls Try.prog 29 #[.agg k1.toArray, .int .i64 (m : Int)] W' fun e w' => (∃ r : Nat, e = .returned (.int .i64 (r : Int)) ∧ 1 ≤ r ∧ r ≤ m) ∧ Below W'.heap.size W' w') :
  Calls Try.prog 29 #[.agg cd.toArray, .int .i64 (most : Int)] w fun e w' => (∃ r : Nat, e = .returned (.int .i64 (r : Int)) ∧ 1 ≤ r ∧ r ≤ most) ∧ Below w.heap.size w w' := by
 obtain ⟨ak, ck, rfl, _, _, _, hkl, bk, ok, hak, hkk⟩ := hd.form
 have HKK := Lib.hid hkk
 have HAK := Lib.hid hak
 have HIH := Lib.hid hih
 unfold LK at hkl
 obtain ⟨l, hl⟩ : ∃ x, p.lot = x := ⟨_, rfl⟩
 obtain ⟨i, hi⟩ : ∃ x, p.inn = x := ⟨_, rfl⟩
 obtain ⟨s, hs⟩ : ∃ x, p.sender = x := ⟨_, rfl⟩
 obtain ⟨nk, hnk⟩ : ∃ x, p.kids.length = x := ⟨_, rfl⟩
 rw [hl, hi, hs, hnk]
 rw [hnk] at HAK HKK HIH hkl
 clear hd hak hkk hih hl hi hs hnk
 go_enter Try.func29, Try.ntmps29
 go_upto_region 1 with fail
 refine wp_name (fun W1 hW1 => ?_)
 have HX1 : Hid (Box W1 w.heap.size #[.int .i64 l, .int .i64 i, .slice ak nk ck, .int .i64 s]) := Lib.hid (by rw [hW1]; exact Box.new w #[.int .i64 l, .int .i64 i, .slice ak nk ck, .int .i64 s] 31)
 have HW1 : Hid (Below w.heap.size w W1) := Lib.hid (by rw [hW1]; exact box_below' w _)
 clear hW1
 go_wp2
 go_loopw [5, 6] (fun r' i' wr => ∃ (j r : Nat), j ≤ nk ∧ i' = .int .i64 j ∧ r' = .int .i64 r ∧ 1 ≤ r ∧ r ≤ most ∧ Below W1.heap.size W1 wr) (fun _ i' _ => nk - (intOf i').toNat)
 case atStart => exact ⟨0, 1, by omega, rfl, rfl, by omega, hm1, Below.refl _ _⟩
 case round =>
  obtain ⟨j, r, hj, rfl, rfl, hr1, hr2, hb1⟩ := hrel
  have HB1 := Lib.hid hb1
  have HBR : Hid (Below w.heap.size w wr) := Lib.hid (HW1.out.trans (hb1.mono HW1.out.size))
  have HXR := Lib.hid (HX1.out.ext hb1)
  have r4 := HXR.out.2
  clear hb1
  by_cases hlt : j < nk
  ·by_cases hrm : r < most
   ·obtain rfl : ak = some ⟨bk, ok, none⟩ := by rcases HAK.out with h | h; exact h; omega
    obtain ⟨hbk, cs, hcs, hds⟩ := HKK.out j hlt
    have HDS := Lib.hid hds
    have hbq : bk < B := hbk
    obtain ⟨aq, cq, hce, _⟩ := hds.form
    obtain ⟨y0, y1, y3, nq, hy0⟩ : ∃ y0 y1 y3 nq, cs = [.int .i64 y0, .int .i64 y1, .slice aq nq cq, .int .i64 y3] := ⟨_, _, _, _, hce⟩
    subst hy0
    have e0 := (HBR.out.cell (p := ⟨bk, ok + j * 4, none⟩) (by show bk < _; omega)).trans (hcs 0 _ rfl)
    have e1 := (HBR.out.cell (p := ⟨bk, ok + j * 4 + 1, none⟩) (by show bk < _; omega)).trans (hcs 1 _ rfl)
    have e2 := (HBR.out.cell (p := ⟨bk, ok + j * 4 + 2, none⟩) (by show bk < _; omega)).trans (hcs 2 _ rfl)
    have e3 := (HBR.out.cell (p := ⟨bk, ok + j * 4 + 3, none⟩) (by show bk < _; omega)).trans (hcs 3 _ rfl)
    have HCL := Lib.hid (HIH.out j (most - r) wr [.int .i64 y0, .int .i64 y1, .slice aq nq cq, .int .i64 y3] hlt HBR.out (IsDen.below HDS.out HBR.out hB) (by omega) (by omega))
    have hwm : IntKind.i64.wrap ((most : Int) - (r : Int)) = ((most - r : Nat) : Int) := by rw [IntWalk.i64_in _ (by omega)]; omega
    clear hce hcs hds
    go_wp2_with fail
    refine HCL.out.mono ?_
    rintro e w5 ⟨⟨r5, rfl, h51, h52⟩, hb5⟩
    have HBC5 := Lib.hid (HB1.out.trans (hb5.mono HB1.out.size))
    clear hb5 r4
    have h53 : r5 ≤ 100000 := by omega
    go_wp2
    go_roundw
    case rel => exact ⟨j + 1, r + r5, by omega, by go_num, by go_num, by omega, by omega, HBC5.out⟩
    case measure => simp [intOf]; omega
   ·obtain rfl : r = most := by omega
    go_wp2
    go_ret
    exact ⟨⟨r, rfl, hr1, Nat.le_refl _⟩, HBR.out⟩
  ·obtain rfl : j = nk := by omega
   go_wp2
   go_ret
   exact ⟨⟨r, rfl, hr1, hr2⟩, HBR.out⟩
/-- frankingref29.size -/
theorem size29_any : ∀ (n B : Nat) (w : World) (cd : List Value) (p : Den) (most : Nat), SizeOf.sizeOf p ≤ n → IsDen B w cd p → B ≤ w.heap.size → 1 ≤ most → most ≤ 100000 →
  Calls Try.prog 29 #[.agg cd.toArray, .int .i64 (most : Int)] w fun e w' => (∃ r : Nat, e = .returned (.int .i64 (r : Int)) ∧ 1 ≤ r ∧ r ≤ most) ∧ Below w.heap.size w w' := by
 intro n
 induction n with
 | zero =>
  intro B w cd p most hn
  cases p with
  | mk l i k s => simp only [Den.mk.sizeOf_spec] at hn; omega
 | succ n ih =>
  intro B w cd p most hn hd hB h1 h2
  exact size29_step B w cd p most hd hB h1 h2 (fun j m W' k1 hj hW' h1 h2 h3 => ih B W' k1 _ m (by have := den_lt hj; omega) h1 (Nat.le_trans hB hW'.size) h2 h3)
end Go.Proofs.Yteiaeaciaglmgaa
set_option linter.unusedVariables false
set_option linter.unusedSimpArgs false
namespace Go.Proofs.Yteiaeaciaglmgaa
open Go.RowKit
structure Few29 (f : Flow) (zs : List Int) (W : List (List Int)) : Prop where
 few : few25 f = true
 send : f.senders ≤ 8 ∨ 64 < f.senders
 lots : f.lots.length ≤ 8
 ends : zs.length ≤ 70
 way : W.length ≤ 30
 row : ∀ j, j < W.length → (rowAt W j).length ≤ 70
set_option maxHeartbeats 8000000 in
set_option maxRecDepth 100000 in
/-- frankingref29.Few -/
theorem few29_any (B : Nat) (w : World) (vs vl va vw : Value) (cd : List Value) (f : Flow) (zs : List Int) (W : List (List Int)) (p : Den) (hf : IsFlow B w vs vl f) (hz : IsInts B w va zs) (hw : IsMat B w vw W) (hd : IsDen B w cd p) (hB : B ≤ w.heap.size) :
  Calls Try.prog 10 #[.agg #[vs, vl], va, vw, .agg cd.toArray] w fun e w' => (∃ r, e = .returned (.bool r) ∧ (r = true → Few29 f zs W)) ∧ Below w.heap.size w w' := by
 have HF := Lib.hid hf
 have HD := Lib.hid hd
 obtain ⟨rfl, ⟨hs1, hs2⟩, hl'⟩ := hf
 obtain ⟨b, off, cap, ⟨a, rfl, hcap, hmax, ha⟩, hlen, hc⟩ := hl'
 obtain ⟨az, cz, rfl⟩ := hz.form
 obtain ⟨bw, ow, cw, ⟨aw, rfl, hcw1, hcw2, haw⟩, hwl, hcw⟩ := hw
 have HCW := Lib.hid hcw
 have HAW := Lib.hid haw
 obtain ⟨ak, ck, rfl, _⟩ := hd.form
 obtain ⟨l, hl⟩ : ∃ x, p.lot = x := ⟨_, rfl⟩
 obtain ⟨i, hi⟩ : ∃ x, p.inn = x := ⟨_, rfl⟩
 obtain ⟨s, hs⟩ : ∃ x, p.sender = x := ⟨_, rfl⟩
 obtain ⟨nk, hnk⟩ : ∃ x, p.kids.length = x := ⟨_, rfl⟩
 rw [hl, hi, hs, hnk] at HD ⊢
 clear hz ha hc hd hl hi hs hnk hcw haw
 go_enter Try.func10, Try.ntmps10
 go_upto_region 1 with fail
 refine wp_name (fun W1 hW1 => ?_)
 have HX1 : Hid (Box W1 w.heap.size #[.int .i64 f.senders, .slice a f.lots.length cap]) := Lib.hid (by rw [hW1]; exact (Box.new w #[.int .i64 f.senders, .slice a f.lots.length cap] 24).alloc _)
 have HR1 : Hid (Box W1 (w.heap.size + 1) #[.int .i64 l, .int .i64 i, .slice ak nk ck, .int .i64 s]) := Lib.hid (by
  rw [hW1]
  have h := Box.new (w.alloc (.cells #[.int .i64 f.senders, .slice a f.lots.length cap] 24)) #[.int .i64 l, .int .i64 i, .slice ak nk ck, .int .i64 s] 31
  rw [World.size_alloc] at h
  exact h)
 have HW1 : Hid (Below w.heap.size w W1) := Lib.hid (by rw [hW1]; exact (box_below' w _).trans ((box_below' _ _).mono (by simp)))
 clear hW1
 have HFL := Lib.hid (fun (W' : World) (h : Below w.heap.size w W') => few25_any B W' _ _ f (HF.out.below h hB) (Nat.le_trans hB h.size))
 have HSZ := Lib.hid (fun (W' : World) (h : Below w.heap.size w W') => size29_any (SizeOf.sizeOf p) B W' _ p 20001 (Nat.le_refl _) (IsDen.below HD.out h hB) (Nat.le_trans hB h.size) (by omega) (by omega))
 have HCH := Lib.hid (fun (W' : World) (h : Below w.heap.size w W') => check25_any B W' _ _ f (HF.out.below h hB) (Nat.le_trans hB h.size))
 have HWY := Lib.hid (fun (W' : World) (h : Below w.heap.size w W') (hck : checkE f = 0) => ways29_any B W' _ _ f (HF.out.below h hB) (Nat.le_trans hB h.size) hck)
 have r1 := HX1.out.2
 have d1 := HR1.out.2
 by_cases h8 : f.senders ≤ 8
 ·have HSN : Hid (f.senders ≤ 8 ∨ 64 < f.senders) := Lib.hid (.inl h8)
  have h81 : decide (8 < f.senders) = false := decide_eq_false (by omega)
  clear h8
  go_wp2_with fail
  refine (HFL.out _ HW1.out).mono ?_
  rintro e W2 ⟨rfl, hb2⟩
  have HX2 := Lib.hid (HX1.out.ext hb2)
  have HR2 := Lib.hid (HR1.out.ext hb2)
  have HW2 : Hid (Below w.heap.size w W2) := Lib.hid (HW1.out.trans (hb2.mono HW1.out.size))
  clear hb2 r1 d1
  have r2 := HX2.out.2
  have d2 := HR2.out.2
  obtain ⟨FE, hFE⟩ : ∃ x, few25 f = x := ⟨_, rfl⟩
  have HFE := Lib.hid hFE
  rw [hFE]
  clear hFE
  cases FE
  ·go_wp2
   go_ret
   first | exact ⟨⟨false, rfl, fun h => by cases h⟩, HW2.out⟩ | exact ⟨.inl rfl, HW2.out⟩
  ·by_cases hl8 : 8 < f.lots.length
   ·have hl81 : decide (8 < (f.lots.length : Int)) = true := decide_eq_true (by omega)
    go_wp2
    go_ret
    first | exact ⟨⟨false, rfl, fun h => by cases h⟩, HW2.out⟩ | exact ⟨.inl rfl, HW2.out⟩
   ·have hl81 : decide (8 < (f.lots.length : Int)) = false := decide_eq_false (by omega)
    by_cases hz70 : 70 < zs.length
    ·have hz71 : decide (70 < (zs.length : Int)) = true := decide_eq_true (by omega)
     go_wp2
     go_ret
     first | exact ⟨⟨false, rfl, fun h => by cases h⟩, HW2.out⟩ | exact ⟨.inl rfl, HW2.out⟩
    ·have hz71 : decide (70 < (zs.length : Int)) = false := decide_eq_false (by omega)
     by_cases hw30 : 30 < W.length
     ·have hw31 : decide (30 < (W.length : Int)) = true := decide_eq_true (by omega)
      go_wp2
      go_ret
      first | exact ⟨⟨false, rfl, fun h => by cases h⟩, HW2.out⟩ | exact ⟨.inl rfl, HW2.out⟩
     ·have hw31 : decide (30 < (W.length : Int)) = false := decide_eq_false (by omega)
      go_wp2_with fail
      refine (HSZ.out _ HW2.out).mono ?_
      rintro e W3 ⟨⟨r, rfl, hr1, hr2⟩, hb3⟩
      have HX3 := Lib.hid (HX2.out.ext hb3)
      have HW3 : Hid (Below w.heap.size w W3) := Lib.hid (HW2.out.trans (hb3.mono HW2.out.size))
      clear hb3 r2 d2
      have r3 := HX3.out.2
      by_cases hr : 20000 < r
      ·have hr3 : decide (20000 < (r : Int)) = true := decide_eq_true (by omega)
       go_wp2
       go_ret
       first | exact ⟨⟨false, rfl, fun h => by cases h⟩, HW3.out⟩ | exact ⟨.inl rfl, HW3.out⟩
      ·have hr3 : decide (20000 < (r : Int)) = false := decide_eq_false (by omega)
       go_wp2
       try simp only [hr3, hw31, hz71, hl81]
       go_loopw [9] (fun i' wr => ∃ k : Nat, k ≤ W.length ∧ i' = .int .i64 k ∧ (∀ j, j < k → (rowAt W j).length ≤ 70) ∧ Below W3.heap.size W3 wr) (fun i' _ => W.length - (intOf i').toNat)
       case atStart => exact ⟨0, by omega, rfl, fun j hj => by omega, Below.refl _ _⟩
       case round =>
        obtain ⟨k, hk, rfl, hrow, hb4⟩ := hrel
        have HRW := Lib.hid hrow
        have HB4 := Lib.hid hb4
        have HX4 := Lib.hid (HX3.out.ext hb4)
        have HBR : Hid (Below w.heap.size w wr) := Lib.hid (HW3.out.trans (hb4.mono HW3.out.size))
        clear hrow hb4
        by_cases hlt : k < W.length
        ·obtain rfl : aw = some ⟨bw, ow, none⟩ := by rcases HAW.out with h | h; exact h; omega
         obtain ⟨vr, hc1, hc2⟩ := HCW.out k hlt
         obtain ⟨ar, cr, rfl⟩ := hc2.form
         have x0 := (hc1.below HBR.out hB).2
         clear hc1 hc2
         by_cases h70 : 70 < (rowAt W k).length
         ·have h71 : decide (70 < ((rowAt W k).length : Int)) = true := decide_eq_true (by omega)
          go_wp2
          go_ret
          first | exact ⟨⟨false, rfl, fun h => by cases h⟩, HBR.out⟩ | exact ⟨.inl rfl, HBR.out⟩
         ·have h71 : decide (70 < ((rowAt W k).length : Int)) = false := decide_eq_false (by omega)
          have HL7 := Lib.hid h70
          clear h70
          go_wp2
          go_roundw
          case rel => exact ⟨k + 1, by omega, by go_num, fun j hj => by by_cases e' : j = k; (subst e'; have := HL7.out; omega); exact HRW.out j (by omega), HB4.out⟩
          case measure => simp [intOf]; omega
        ·obtain rfl : k = W.length := by omega
         have HFW : Hid (Few29 f zs W) := Lib.hid ⟨HFE.out, HSN.out, by omega, by omega, by omega, HRW.out⟩
         have r4 := HX4.out.2
         clear r3
         go_wp2_with fail
         refine (HCH.out _ HBR.out).mono ?_
         rintro e W5 ⟨rfl, hb5⟩
         have HX5 := Lib.hid (HX4.out.ext hb5)
         have HW5 : Hid (Below w.heap.size w W5) := Lib.hid (HBR.out.trans (hb5.mono HBR.out.size))
         clear hb5 r4
         have r5 := HX5.out.2
         by_cases he : checkE f = 0
         ·have he1 : (checkE f != 0) = false := by simpa using he
          go_wp2_with fail
          refine (HWY.out _ HW5.out he).mono ?_
          rintro e W6 ⟨rfl, hb6⟩
          have HX6 := Lib.hid (HX5.out.ext hb6)
          have HW6 : Hid (Below w.heap.size w W6) := Lib.hid (HW5.out.trans (hb6.mono HW5.out.size))
          clear hb6 r5
          have r6 := HX6.out.2
          obtain ⟨wv, hwv⟩ : ∃ x, waysI f f.lots.length = x := ⟨_, rfl⟩
          rw [hwv]
          by_cases h3 : wv ≤ 3000
          ·have h31 : decide (wv ≤ 3000) = true := decide_eq_true h3
           go_wp2
           go_ret
           first | exact ⟨⟨true, rfl, fun _ => HFW.out⟩, HW6.out⟩ | exact ⟨.inr ⟨rfl, HFW.out⟩, HW6.out⟩
          ·have h31 : decide (wv ≤ 3000) = false := decide_eq_false h3
           go_wp2_with fail
           refine (HWY.out _ HW6.out he).mono ?_
           rintro e W7 ⟨rfl, hb7⟩
           have HW7 : Hid (Below w.heap.size w W7) := Lib.hid (HW6.out.trans (hb7.mono HW6.out.size))
           clear hb7 r6
           rw [hwv]
           by_cases h5 : 5040 < wv
           ·have h51 : decide (5040 < wv) = true := decide_eq_true h5
            go_wp2
            go_ret
            first | exact ⟨⟨true, rfl, fun _ => HFW.out⟩, HW7.out⟩ | exact ⟨.inr ⟨rfl, HFW.out⟩, HW7.out⟩
           ·have h51 : decide (5040 < wv) = false := decide_eq_false h5
            go_wp2
            go_ret
            first | exact ⟨⟨false, rfl, fun h => by cases h⟩, HW7.out⟩ | exact ⟨.inl rfl, HW7.out⟩
         ·have he1 : (checkE f != 0) = true := by simpa using he
          go_wp2
          go_ret
          first | exact ⟨⟨true, rfl, fun _ => HFW.out⟩, HW5.out⟩ | exact ⟨.inr ⟨rfl, HFW.out⟩, HW5.out⟩
 ·have h81 : decide (8 < f.senders) = true := decide_eq_true (by omega)
  by_cases h64 : f.senders ≤ 64
  ·have h641 : decide (f.senders ≤ 64) = true := decide_eq_true h64
   go_wp2
   go_ret
   first | exact ⟨⟨false, rfl, fun h => by cases h⟩, HW1.out⟩ | exact ⟨.inl rfl, HW1.out⟩
  ·have HSN : Hid (f.senders ≤ 8 ∨ 64 < f.senders) := Lib.hid (.inr (by omega))
   have h641 : decide (f.senders ≤ 64) = false := decide_eq_false h64
   clear h8 h64
   go_wp2_with fail
   refine (HFL.out _ HW1.out).mono ?_
   rintro e W2 ⟨rfl, hb2⟩
   have HX2 := Lib.hid (HX1.out.ext hb2)
   have HR2 := Lib.hid (HR1.out.ext hb2)
   have HW2 : Hid (Below w.heap.size w W2) := Lib.hid (HW1.out.trans (hb2.mono HW1.out.size))
   clear hb2 r1 d1
   have r2 := HX2.out.2
   have d2 := HR2.out.2
   obtain ⟨FE, hFE⟩ : ∃ x, few25 f = x := ⟨_, rfl⟩
   have HFE := Lib.hid hFE
   rw [hFE]
   clear hFE
   cases FE
   ·go_wp2
    go_ret
    first | exact ⟨⟨false, rfl, fun h => by cases h⟩, HW2.out⟩ | exact ⟨.inl rfl, HW2.out⟩
   ·by_cases hl8 : 8 < f.lots.length
    ·have hl81 : decide (8 < (f.lots.length : Int)) = true := decide_eq_true (by omega)
     go_wp2
     go_ret
     first | exact ⟨⟨false, rfl, fun h => by cases h⟩, HW2.out⟩ | exact ⟨.inl rfl, HW2.out⟩
    ·have hl81 : decide (8 < (f.lots.length : Int)) = false := decide_eq_false (by omega)
     by_cases hz70 : 70 < zs.length
     ·have hz71 : decide (70 < (zs.length : Int)) = true := decide_eq_true (by omega)
      go_wp2
      go_ret
      first | exact ⟨⟨false, rfl, fun h => by cases h⟩, HW2.out⟩ | exact ⟨.inl rfl, HW2.out⟩
     ·have hz71 : decide (70 < (zs.length : Int)) = false := decide_eq_false (by omega)
      by_cases hw30 : 30 < W.length
      ·have hw31 : decide (30 < (W.length : Int)) = true := decide_eq_true (by omega)
       go_wp2
       go_ret
       first | exact ⟨⟨false, rfl, fun h => by cases h⟩, HW2.out⟩ | exact ⟨.inl rfl, HW2.out⟩
      ·have hw31 : decide (30 < (W.length : Int)) = false := decide_eq_false (by omega)
       go_wp2_with fail
       refine (HSZ.out _ HW2.out).mono ?_
       rintro e W3 ⟨⟨r, rfl, hr1, hr2⟩, hb3⟩
       have HX3 := Lib.hid (HX2.out.ext hb3)
       have HW3 : Hid (Below w.heap.size w W3) := Lib.hid (HW2.out.trans (hb3.mono HW2.out.size))
       clear hb3 r2 d2
       have r3 := HX3.out.2
       by_cases hr : 20000 < r
       ·have hr3 : decide (20000 < (r : Int)) = true := decide_eq_true (by omega)
        go_wp2
        go_ret
        first | exact ⟨⟨false, rfl, fun h => by cases h⟩, HW3.out⟩ | exact ⟨.inl rfl, HW3.out⟩
       ·have hr3 : decide (20000 < (r : Int)) = false := decide_eq_false (by omega)
        go_wp2
        try simp only [hr3, hw31, hz71, hl81]
        go_loopw [9] (fun i' wr => ∃ k : Nat, k ≤ W.length ∧ i' = .int .i64 k ∧ (∀ j, j < k → (rowAt W j).length ≤ 70) ∧ Below W3.heap.size W3 wr) (fun i' _ => W.length - (intOf i').toNat)
        case atStart => exact ⟨0, by omega, rfl, fun j hj => by omega, Below.refl _ _⟩
        case round =>
         obtain ⟨k, hk, rfl, hrow, hb4⟩ := hrel
         have HRW := Lib.hid hrow
         have HB4 := Lib.hid hb4
         have HX4 := Lib.hid (HX3.out.ext hb4)
         have HBR : Hid (Below w.heap.size w wr) := Lib.hid (HW3.out.trans (hb4.mono HW3.out.size))
         clear hrow hb4
         by_cases hlt : k < W.length
         ·obtain rfl : aw = some ⟨bw, ow, none⟩ := by rcases HAW.out with h | h; exact h; omega
          obtain ⟨vr, hc1, hc2⟩ := HCW.out k hlt
          obtain ⟨ar, cr, rfl⟩ := hc2.form
          have x0 := (hc1.below HBR.out hB).2
          clear hc1 hc2
          by_cases h70 : 70 < (rowAt W k).length
          ·have h71 : decide (70 < ((rowAt W k).length : Int)) = true := decide_eq_true (by omega)
           go_wp2
           go_ret
           first | exact ⟨⟨false, rfl, fun h => by cases h⟩, HBR.out⟩ | exact ⟨.inl rfl, HBR.out⟩
          ·have h71 : decide (70 < ((rowAt W k).length : Int)) = false := decide_eq_false (by omega)
           have HL7 := Lib.hid h70
           clear h70
           go_wp2
           go_roundw
           case rel => exact ⟨k + 1, by omega, by go_num, fun j hj => by by_cases e' : j = k; (subst e'; have := HL7.out; omega); exact HRW.out j (by omega), HB4.out⟩
           case measure => simp [intOf]; omega
         ·obtain rfl : k = W.length := by omega
          have HFW : Hid (Few29 f zs W) := Lib.hid ⟨HFE.out, HSN.out, by omega, by omega, by omega, HRW.out⟩
          have r4 := HX4.out.2
          clear r3
          go_wp2_with fail
          refine (HCH.out _ HBR.out).mono ?_
          rintro e W5 ⟨rfl, hb5⟩
          have HX5 := Lib.hid (HX4.out.ext hb5)
          have HW5 : Hid (Below w.heap.size w W5) := Lib.hid (HBR.out.trans (hb5.mono HBR.out.size))
          clear hb5 r4
          have r5 := HX5.out.2
          by_cases he : checkE f = 0
          ·have he1 : (checkE f != 0) = false := by simpa using he
           go_wp2_with fail
           refine (HWY.out _ HW5.out he).mono ?_
           rintro e W6 ⟨rfl, hb6⟩
           have HX6 := Lib.hid (HX5.out.ext hb6)
           have HW6 : Hid (Below w.heap.size w W6) := Lib.hid (HW5.out.trans (hb6.mono HW5.out.size))
           clear hb6 r5
           have r6 := HX6.out.2
           obtain ⟨wv, hwv⟩ : ∃ x, waysI f f.lots.length = x := ⟨_, rfl⟩
           rw [hwv]
           by_cases h3 : wv ≤ 3000
           ·have h31 : decide (wv ≤ 3000) = true := decide_eq_true h3
            go_wp2
            go_ret
            first | exact ⟨⟨true, rfl, fun _ => HFW.out⟩, HW6.out⟩ | exact ⟨.inr ⟨rfl, HFW.out⟩, HW6.out⟩
           ·have h31 : decide (wv ≤ 3000) = false := decide_eq_false h3
            go_wp2_with fail
            refine (HWY.out _ HW6.out he).mono ?_
            rintro e W7 ⟨rfl, hb7⟩
            have HW7 : Hid (Below w.heap.size w W7) := Lib.hid (HW6.out.trans (hb7.mono HW6.out.size))
            clear hb7 r6
            rw [hwv]
            by_cases h5 : 5040 < wv
            ·have h51 : decide (5040 < wv) = true := decide_eq_true h5
             go_wp2
             go_ret
             first | exact ⟨⟨true, rfl, fun _ => HFW.out⟩, HW7.out⟩ | exact ⟨.inr ⟨rfl, HFW.out⟩, HW7.out⟩
            ·have h51 : decide (5040 < wv) = false := decide_eq_false h5
             go_wp2
             go_ret
             first | exact ⟨⟨false, rfl, fun h => by cases h⟩, HW7.out⟩ | exact ⟨.inl rfl, HW7.out⟩
          ·have he1 : (checkE f != 0) = true := by simpa using he
           go_wp2
           go_ret
           first | exact ⟨⟨true, rfl, fun _ => HFW.out⟩, HW5.out⟩ | exact ⟨.inr ⟨rfl, HFW.out⟩, HW5.out⟩
end Go.Proofs.Yteiaeaciaglmgaa
set_option linter.unusedVariables false
set_option linter.unusedSimpArgs false
namespace Go.Proofs.Yteiaeaciaglmgaa
open Go.RowKit
set_option maxHeartbeats 4000000 in
set_option maxRecDepth 100000 in
/-- explain.check -/
theorem echeck_any (B : Nat) (w : World) (vs vl va : Value) (f : Flow) (zs : List Int) (hf : IsFlow B w vs vl f) (hx : IsInts B w va zs) (hB : B ≤ w.heap.size) :
  Calls Try.prog 31 #[.agg #[vs, vl], va] w fun e w' => e = .returned (.int .i64 (errX f zs)) ∧ Below w.heap.size w w' := by
 have HF := Lib.hid hf
 obtain ⟨bx, ox, cx, ⟨ax, rfl, hx1, hx2, _⟩, hx3, _⟩ := hx
 obtain ⟨rfl, ⟨hs1, hs2⟩, hl⟩ := hf
 obtain ⟨b, off, cap, ⟨a, rfl, hcap, hmax, ha⟩, hlen, hc⟩ := hl
 have HC := Lib.hid hc
 have HA := Lib.hid ha
 have HE : Hid (errX f zs = if checkE f ≠ 0 then checkE f else if 5040 < waysI f f.lots.length then 2 else if (zs.length : Int) ≠ f.senders then 1 else 0) := Lib.hid rfl
 obtain ⟨ER, hER⟩ : ∃ x, errX f zs = x := ⟨_, rfl⟩
 rw [hER] at HE ⊢
 clear hc ha hER
 go_enter Try.func31, Try.ntmps31
 go_upto_region 1 with fail
 refine wp_name (fun W1 hW1 => ?_)
 have HX1 : Hid (Box W1 w.heap.size #[.int .i64 f.senders, .slice a f.lots.length cap]) := Lib.hid (by rw [hW1]; exact Box.new w #[.int .i64 f.senders, .slice a f.lots.length cap] 24)
 have HW1 : Hid (Below w.heap.size w W1) := Lib.hid (by rw [hW1]; exact box_below' w _)
 clear hW1
 have r1 := HX1.out.2
 go_wp2_with fail
 refine (fcheck_any B W1 _ _ f (HF.out.below HW1.out hB) (Nat.le_trans hB HW1.out.size)).mono ?_
 rintro e W2 ⟨rfl, hb2⟩
 have HX2 := Lib.hid (HX1.out.ext hb2)
 have HW2 : Hid (Below w.heap.size w W2) := Lib.hid (HW1.out.trans (hb2.mono HW1.out.size))
 clear hb2 r1
 have r2 := HX2.out.2
 by_cases he : checkE f = 0
 ·have he1 : (checkE f != 0) = false := by simpa using he
  have HCK := Lib.hid he
  have hl2 : f.lots.length ≤ 2000 := (checkE_ok he).2.2.1
  have HE2 : Hid (ER = if 5040 < waysI f f.lots.length then 2 else if (zs.length : Int) ≠ f.senders then 1 else 0) := Lib.hid (by rw [HE.out, if_neg (by simpa using he)])
  clear he HE
  go_wp2
  try simp only [he1]
  go_loopw [6, 18] (fun n' i' wr => ∃ k : Nat, k ≤ f.lots.length ∧ i' = .int .i64 k ∧ n' = .int .i64 (waysI f k) ∧ Below W2.heap.size W2 wr) (fun _ i' _ => f.lots.length - (intOf i').toNat)
  case atStart => exact ⟨0, by omega, rfl, rfl, Below.refl _ _⟩
  case round =>
   obtain ⟨k, hk, rfl, rfl, hb3⟩ := hrel
   have HB3 := Lib.hid hb3
   have HBR : Hid (Below w.heap.size w wr) := Lib.hid (HW2.out.trans (hb3.mono HW2.out.size))
   have HX3 := Lib.hid (HX2.out.ext hb3)
   clear hb3
   by_cases hlt : k < f.lots.length
   ·obtain rfl : a = some ⟨b, off, none⟩ := by rcases HA.out with h | h; exact h; omega
    obtain ⟨vi, vk, vp, q1, q2, q3, hli, rfl, hlp⟩ := HC.out k hlt
    obtain ⟨ai, ci, rfl⟩ := hli.form
    obtain ⟨ap, cp, rfl⟩ := hlp.form
    have c1 := (q1.below HBR.out hB).2
    have c2 := (q2.below HBR.out hB).2
    have c3 := (q3.below HBR.out hB).2
    have HS : Hid (waysI f (k + 1) = if (lotAt f.lots k).known then waysI f k else wayI (waysI f k) (lotAt f.lots k).ins.length) := Lib.hid rfl
    have hbd := waysI_bd f k
    obtain ⟨N, hN⟩ : ∃ N, waysI f k = N := ⟨_, rfl⟩
    rw [hN] at hbd HS ⊢
    obtain ⟨hb1, hb2⟩ := hbd
    have HO : Hid (wayI N 0 = N) := Lib.hid rfl
    have HBD := Lib.hid (wayI_bd hb1 hb2)
    have hni : (lotAt f.lots k).ins.length ≤ 50000 := ins_small HCK.out hlt
    obtain ⟨n, hn⟩ : ∃ n, (lotAt f.lots k).ins.length = n := ⟨_, rfl⟩
    rw [hn] at c1 HS hni
    clear hN hn q1 q2 q3 hli hlp
    cases hkn : (lotAt f.lots k).known
    ·rw [hkn] at c2 HS
     clear hkn
     have HB4 : Hid (Below W2.heap.size W2 (wr.alloc (.cells #[.slice ai n ci, .bool false, .slice ap (lotAt f.lots k).perm.length cp] 54))) := Lib.hid (HB3.out.alloc HB3.out.size _)
     have HL4 : Hid (Box (wr.alloc (.cells #[.slice ai n ci, .bool false, .slice ap (lotAt f.lots k).perm.length cp] 54)) wr.heap.size #[.slice ai n ci, .bool false, .slice ap (lotAt f.lots k).perm.length cp]) := Lib.hid (Box.new wr _ _)
     obtain ⟨zL, hzL⟩ : ∃ z, z = wr.heap.size := ⟨_, rfl⟩
     go_upto_region 8 with fail
     refine wp_name (fun W4 hW4 => ?_)
     rw [← hW4] at HB4 HL4
     have l4 := HL4.out.2
     clear hW4 hzL zL c1 c2 c3 r2
     go_wp2
     go_loop [6, 25] (fun v' i' => ∃ j : Nat, j ≤ n ∧ i' = .int .i64 j ∧ v' = .int .i64 (wayI N j)) (fun _ i' => n - (intOf i').toNat)
     case atStart => exact ⟨0, by omega, rfl, by rw [HO.out]⟩
     case round =>
      obtain ⟨j, hj, rfl, rfl⟩ := hrel
      have HSJ : Hid (wayI N (j + 1) = min (wayI N j * ((j : Int) + 1)) 5041) := Lib.hid rfl
      obtain ⟨q1, q2⟩ := HBD.out j
      have hmul : 0 ≤ wayI N j * ((j : Int) + 1) ∧ wayI N j * ((j : Int) + 1) ≤ 5041 * 50001 := by
       have h1 := Int.mul_pos (a := wayI N j) (b := (j : Int) + 1) (by omega) (by omega)
       have h2 := Int.mul_le_mul q2 (show (j : Int) + 1 ≤ 50001 by omega) (by omega) (by omega)
       omega
      obtain ⟨x, hx⟩ : ∃ x, wayI N j = x := ⟨_, rfl⟩
      rw [hx] at HSJ hmul q1 q2 ⊢
      obtain ⟨y, hy⟩ : ∃ y, x * ((j : Int) + 1) = y := ⟨_, rfl⟩
      have HX := Lib.hid hx
      rw [hy] at HSJ hmul
      obtain ⟨hm1, hm2⟩ := hmul
      clear hx
      by_cases hjl : j < n
      ·have hwy : IntKind.i64.wrap y = y := by rw [IntWalk.i64_in _ (by omega)]
       go_wp2
       go_round
       case rel => exact ⟨j + 1, by omega, by go_num, by rw [HSJ.out]; rw [show min y 5041 = if 5041 < y then 5041 else y by split <;> omega]⟩
       case measure => simp [intOf]; omega
      ·obtain rfl : j = n := by omega
       go_wp2
       go_roundw
       case rel => exact ⟨k + 1, by omega, by go_num, by rw [HS.out, if_neg (by decide), HX.out], HB4.out⟩
       case measure => simp [intOf]; omega
    ·rw [hkn] at c2 HS
     clear hkn
     have HB4 : Hid (Below W2.heap.size W2 (wr.alloc (.cells #[.slice ai n ci, .bool true, .slice ap (lotAt f.lots k).perm.length cp] 54))) := Lib.hid (HB3.out.alloc HB3.out.size _)
     have HL4 : Hid (Box (wr.alloc (.cells #[.slice ai n ci, .bool true, .slice ap (lotAt f.lots k).perm.length cp] 54)) wr.heap.size #[.slice ai n ci, .bool true, .slice ap (lotAt f.lots k).perm.length cp]) := Lib.hid (Box.new wr _ _)
     go_upto_region 8 with fail
     refine wp_name (fun W4 hW4 => ?_)
     rw [← hW4] at HB4 HL4
     have l4 := HL4.out.2
     clear hW4 c1 c2 c3 r2
     go_wp2
     go_loop [6, 25] (fun v' i' => ∃ j : Nat, j ≤ n ∧ i' = .int .i64 j ∧ v' = .int .i64 N) (fun _ i' => n - (intOf i').toNat)
     case atStart => exact ⟨0, by omega, rfl, rfl⟩
     case round =>
      obtain ⟨j, hj, rfl, rfl⟩ := hrel
      by_cases hjl : j < n
      ·go_wp2
       go_round
       case rel => exact ⟨j + 1, by omega, by go_num, rfl⟩
       case measure => simp [intOf]; omega
      ·obtain rfl : j = n := by omega
       go_wp2
       go_roundw
       case rel => exact ⟨k + 1, by omega, by go_num, by rw [HS.out]; simp, HB4.out⟩
       case measure => simp [intOf]; omega
   ·obtain rfl : k = f.lots.length := by omega
    have r3 := HX3.out.2
    obtain ⟨wv, hwv⟩ : ∃ x, waysI f f.lots.length = x := ⟨_, rfl⟩
    rw [hwv] at HE2 ⊢
    clear r2
    by_cases h5 : 5040 < wv
    ·have h51 : decide (5040 < wv) = true := decide_eq_true h5
     have HE3 : Hid (ER = 2) := Lib.hid (by rw [HE2.out, if_pos h5])
     go_wp2
     go_ret
     exact ⟨by rw [HE3.out]; rfl, HBR.out⟩
    ·have h51 : decide (5040 < wv) = false := decide_eq_false h5
     by_cases hz : (zs.length : Int) = f.senders
     ·have hz1 : ((zs.length : Int) != f.senders) = false := by simpa using hz
      have HE3 : Hid (ER = 0) := Lib.hid (by rw [HE2.out, if_neg h5, if_neg (by simpa using hz)])
      clear hz
      go_wp2
      go_ret
      exact ⟨by rw [HE3.out]; rfl, HBR.out⟩
     ·have hz1 : ((zs.length : Int) != f.senders) = true := by simpa using hz
      have HE3 : Hid (ER = 1) := Lib.hid (by rw [HE2.out, if_neg h5, if_pos (by simpa using hz)])
      clear hz
      go_wp2
      go_ret
      exact ⟨by rw [HE3.out]; rfl, HBR.out⟩
 ·have he1 : (checkE f != 0) = true := by simpa using he
  have HE2 : Hid (ER = checkE f) := Lib.hid (by rw [HE.out, if_pos he])
  go_wp2
  go_ret
  exact ⟨by rw [HE2.out]; rfl, HW2.out⟩
end Go.Proofs.Yteiaeaciaglmgaa
set_option linter.unusedVariables false
set_option linter.unusedSimpArgs false
namespace Go.Proofs.Yteiaeaciaglmgaa
open Go.RowKit Go.MapKept
def EntryAt (P : Program) (T : TypeId) (w : World) (r : Nat) (l : AL) (x : Int) (st : Value) : Prop :=
 ∃ o, w.heap[r]? = some o ∧ ∀ (w2 : World) (v : Value), w2.heap[r]? = some o → ∃ w3, (Instr.entryStore T (.map (some r)) st v).run P w2 = .ok () w3 ∧ IntMap w3 r (aset l x v) ∧ w2.grownBy w3 (some r) ∧ w3.heap.size = w2.heap.size
theorem EntryAt.kept {P : Program} {T : TypeId} {w w' : World} {r : Nat} {l : AL} {x : Int} {st : Value} (h : EntryAt P T w r l x st) (hk : w'.heap[r]? = w.heap[r]?) : EntryAt P T w' r l x st := by
 obtain ⟨o, h1, h2⟩ := h
 exact ⟨o, hk.trans h1, h2⟩
theorem modify_setX {α : Type} (f : α → α) : ∀ (l : List α) (j : Nat) (a : α), l[j]? = some a → l.modify j f = l.set j (f a)
 | [], _, _, h => by simp at h
 | b :: r, 0, a, h => by simp at h; subst h; simp
 | b :: r, j + 1, a, h => by simp at h; simp [List.modify_succ_cons, modify_setX f r j a h]
section
variable {P : Program} {w : World} {T K E : TypeId} {r : Nat} {l : AL}
theorem run_entry_ints (hT : P.underlying T = some (.map K E)) (hK : P.underlying K = some (.int .i64)) {z : Value} (hz : ∀ u, (zeroValue E).run P u = .ok z u) (h : IntMap w r l) (x : Int) :
  ∃ v0 st w', (Instr.mapEntry T (.map (some r)) (.int .i64 x)).run P w = .ok (.tuple #[v0, st]) w' ∧ w.grownBy w' (some r) ∧ w'.heap.size = w.heap.size ∧ EntryAt P T w' r l x st := by
 obtain ⟨es, c, h1, h2, h3⟩ := h
 have hk : IsKey (.int .i64) (.int .i64 x) := rfl
 have hck : (Instr.checkKey false 10000 K (.int .i64 x)).run P w = .ok () w := run_checkKey hK hk false 9999
 have hg : (getObj r).run P w = .ok (.map es c) w := MapKept.run_getObj_map h1
 have hlt := (Array.getElem?_eq_some_iff.1 h1).1
 have keep : ∀ (u : World) (o : Obj), u.grownBy { u with heap := u.heap.setIfInBounds r o } (some r) := fun u o =>
  ⟨rfl, rfl, rfl, by simp, fun k hk' hne => by simp only [Array.getElem?_setIfInBounds]; rw [if_neg (fun e => hne (by rw [e]))]⟩
 rcases findNow_ints es.toList l 0 x h3 with ⟨q1, q2, q3⟩ | ⟨j, u, q1, q2, ⟨e, he, hek⟩, q4⟩
 ·have hf := run_findKey (P := P) (w := w) hK q2
  have hset := run_setObj_map (P := P) (.map (es.push { key := .int .i64 x, val := z, born := c }) (c + 1)) h1
  refine ⟨z, goInt c, _, by simp [Instr.mapEntry, run_underlying hT, Result.andThen, hg, hck, hf, hz, hset]; rfl, keep _ _, by simp, _, (heap_set h1).1, fun w2 v hw2 => ?_⟩
  have hidx : (es.push ⟨.int .i64 x, z, c⟩).findIdx? (fun e => ((e.born : Nat) : Int) == ((c : Nat) : Int)) = some es.size := by
   rw [Go.WideElems.findIdx_arr]
   have := Go.WideElems.findIdx_born (l := (es.push ⟨.int .i64 x, z, c⟩).toList) (j := es.size) (e0 := ⟨.int .i64 x, z, c⟩) (stamped_push h2 q3 (val := z)).2.1 (by simp)
   exact this
  have hmod : (es.push ⟨.int .i64 x, z, c⟩).modify es.size (fun e => { e with val := v }) = es.push ⟨.int .i64 x, v, c⟩ := by
   apply Array.ext'
   rw [Array.toList_modify, Array.toList_push, Array.toList_push, ← Array.length_toList, Go.WideElems.modify_last]
  have hset2 := run_setObj_map (P := P) (.map (es.push { key := .int .i64 x, val := v, born := c }) (c + 1)) hw2
  refine ⟨_, by simp [Instr.entryStore, MapKept.run_getObj_map hw2, asInt, asIntOf, goInt, hidx, hmod, hset2, Result.andThen]; rfl, ⟨_, _, (heap_set hw2).1, stamped_push h2 q3, ?_⟩, keep _ _, by simp⟩
  have haset : ∀ l : AL, alook l x = none → aset l x v = l ++ [(x, v)] := by
   intro l
   induction l with
   | nil => intro _; rfl
   | cons p r ih =>
    obtain ⟨k, u⟩ := p
    intro hl
    simp only [alook] at hl
    by_cases hkx : k = x
    ·simp [hkx] at hl
    ·simp only [if_neg hkx] at hl
     simp [aset, hkx, ih hl]
  simp [haset l q1, h3]
 ·have hf := run_findKey (P := P) (w := w) hK q2
  simp only [Nat.zero_add] at hf
  have hj : es[j]? = some e := by simpa using he
  have hstay : (Instr.keyThatStays (.int .i64 x) (.int .i64 x)).run P w = .ok (.int .i64 x) w := by
   unfold Instr.keyThatStays; simp [Instr.sameBits]
  have hold : ((es[j]?).map (·.key)).getD (.int .i64 x) = .int .i64 x := by
   rw [hj]; simp [hek]
  have hsame : es.modify j (fun e => { e with key := .int .i64 x }) = es := by
   apply Array.ext'
   rw [Array.toList_modify, modify_setX _ _ _ _ he]
   have : ({ e with key := .int .i64 x } : MapEntry) = e := by rw [← hek]
   rw [this]
   exact Go.WideElems.set_self _ _ _ he
  have hset := run_setObj_map (P := P) (.map es c) h1
  refine ⟨u, goInt e.born, _, by simp [Instr.mapEntry, run_underlying hT, Result.andThen, hg, hck, hf, hj, hek, hstay, hsame, hset]; rfl, keep _ _, by simp, _, (heap_set h1).1, fun w2 v hw2 => ?_⟩
  have hidx : es.findIdx? (fun e' => ((e'.born : Nat) : Int) == ((e.born : Nat) : Int)) = some j := by
   rw [Go.WideElems.findIdx_arr]
   exact Go.WideElems.findIdx_born h2.2.1 he
  have hmod : es.modify j (fun e' => { e' with val := v }) = es.modify j (fun e' => { e' with key := .int .i64 x, val := v }) := by
   apply Array.ext'
   rw [Array.toList_modify, Array.toList_modify, modify_setX _ _ _ _ he, modify_setX _ _ _ _ he, ← hek]
  have hset2 := run_setObj_map (P := P) (.map (es.modify j fun e' => { e' with key := .int .i64 x, val := v }) c) hw2
  refine ⟨_, by simp [Instr.entryStore, MapKept.run_getObj_map hw2, asInt, asIntOf, goInt, hidx, hmod, hset2, Result.andThen]; rfl, ⟨_, _, (heap_set hw2).1, ?_, ?_⟩, keep _ _, by simp⟩
  ·refine stamped_modify h2 j _ (fun _ _ => rfl) (fun e' _ he' => ?_)
   rw [hj] at he'
   cases he'
   exact hek.symm
  ·have := q4 v
   simpa using this
end
structure ApC (C c o : Nat) (cs : Array Value) (w1 : World) (vF : Value) (xs : List Int) (n : Int) (fb fa fs : Bool) (xb xa : Value) (w : World) : Prop where
 hC : c < C ∧ C ≤ w1.heap.size
 hv : ∀ k, vF.ownBlock = some k → C ≤ k
 tu : Turned (fun k => k = c ∨ vF.ownBlock = some k) w1 w
 h0 : fa = false → OwnInts C w vF xs
 hb : fb = true → fa = false → ∃ q, xb = .slice (some ⟨q, 0, none⟩) 1 1 ∧ w1.heap.size ≤ q ∧ CellsN w q #[.int .i64 n]
 ha : fa = true → OwnInts C w xa (xs ++ [n])
 ca : fa = true → fb = true
 cz : fs = true → fa = true
 hc : fs = false → CellsN w c cs
 he : fs = true → CellsN w c (cs.setIfInBounds o xa)
section
variable {C c o : Nat} {cs : Array Value} {w1 : World} {vF : Value} {xs : List Int} {n : Int} {fb fa fs : Bool} {xb xa : Value} {w : World}
theorem ApC.start (hC : c < C) (hC2 : C ≤ w1.heap.size) (hv : OwnInts C w1 vF xs) (hc : CellsN w1 c cs) (m : Nat) : ApC C c o cs w1 vF xs n false false false xb xa (w1.drewN m) where
 hC := ⟨hC, hC2⟩
 hv := fun k hk => (hv.ltX k hk).1
 tu := ⟨rfl, rfl, rfl, Nat.le_refl _, fun _ _ _ => rfl⟩
 h0 := fun _ => hv
 hb := fun e => by cases e
 ha := fun e => by cases e
 ca := fun e => by cases e
 cz := fun e => by cases e
 hc := fun _ => hc
 he := fun e => by cases e
variable (h : ApC C c o cs w1 vF xs n fb fa fs xb xa w)
include h
theorem ApC.no (e : fb = false) : fa = false ∧ fs = false := by
 have e1 : fa = false := by
  cases e5 : fa with
  | false => rfl
  | true => have := h.ca e5; rw [e] at this; cases this
 refine ⟨e1, ?_⟩
 cases e5 : fs with
 | false => rfl
 | true => have := h.cz e5; rw [e1] at this; cases this
theorem ApC.nos (e : fa = false) : fs = false := by
 cases e5 : fs with
 | false => rfl
 | true => have := h.cz e5; rw [e] at this; cases this
theorem ApC.sb (hi : fb = false) {x : Value} (he : x = .slice (some ⟨w.heap.size, 0, none⟩) 1 1) : ApC C c o cs w1 vF xs n true fa fs x xa (w.alloc (.cells #[.int .i64 n] 3)) := by
 obtain ⟨e1, e2⟩ := h.no hi
 subst e1 e2
 exact {
  hC := h.hC, hv := h.hv, tu := h.tu.trans (Turned.of_below (box_below' _ _)), h0 := (fun _ => (h.h0 rfl).alloc _),
  hb := (fun _ _ => ⟨_, he, h.tu.size, CellsN.new w _ _⟩), ha := (fun e => by cases e), ca := (fun e => by cases e), cz := (fun e => by cases e), hc := (fun _ => (h.hc rfl).alloc _), he := (fun e => by cases e) }
theorem ApC.sa (hi : fa = false) (hfb : fb = true) {v' : Value} {w' : World} (ho : OwnInts C w' v' (xs ++ [n])) (hg : w.grownBy w' vF.ownBlock) : ApC C c o cs w1 vF xs n fb true fs xb v' w' := by
 have e2 := h.nos hi
 subst e2 hi hfb
 have h1 := h.hC.1
 exact {
  hC := h.hC, hv := h.hv, tu := h.tu.trans (Turned.of_grown hg (fun k e => .inr e)), h0 := (fun e => by cases e),
  hb := (fun _ e => by cases e), ha := (fun _ => ho), ca := (fun _ => rfl), cz := (fun e => by cases e), hc := (fun _ => (h.hc rfl).grown hg (fun e => by have h2 : C ≤ c := h.hv c e.symm; omega)), he := (fun e => by cases e) }
theorem ApC.ss (hi : fs = false) (hfa : fa = true) : ApC C c o cs w1 vF xs n fb fa true xb xa (w.setCell ⟨c, o, none⟩ xa) := by
 subst hi hfa
 have h1 := h.hC.1
 have hg := grown_setCell w ⟨c, o, none⟩ xa
 exact {
  hC := h.hC, hv := h.hv, tu := h.tu.trans (Turned.of_grown hg (fun k e => .inl (by simpa using e.symm))), h0 := (fun e => by cases e),
  hb := (fun _ e => by cases e), ha := (fun _ => (h.ha rfl).kept hg (.inr fun e => by have h2 : C ≤ c := ((h.ha rfl).ltX _ e).1; omega)), ca := h.ca, cz := (fun _ => rfl), hc := (fun e => by cases e), he := (fun _ => (h.hc rfl).set o xa) }
/-- what other blocks hold -/
theorem ApC.cell {k i : Nat} (hk : k < C) (h1 : k ≠ c) : w.cell? ⟨k, i, none⟩ = w1.cell? ⟨k, i, none⟩ :=
 h.tu.cell (p := ⟨k, i, none⟩) (Nat.lt_of_lt_of_le hk h.hC.2) (by rintro (e | e); exact h1 e; have h2 : C ≤ k := h.hv _ e; omega)
end
def maskV (m : Nat) : Value := .int .u64 (m : Int)
/-- block R is a map of masks -/
def MaskMap (w : World) (R : Nat) (M : Int → Nat) : Prop := ∃ l, IntMap w R l ∧ ∀ x, (alook l x).getD (.int .u64 0) = maskV (M x)
theorem MaskMap.lt {w : World} {R : Nat} {M : Int → Nat} (h : MaskMap w R M) : R < w.heap.size := by obtain ⟨l, h, _⟩ := h; exact h.lt
theorem IntMap.turned {X : Nat → Prop} {w w' : World} {r : Nat} {l : AL} (h : IntMap w r l) (ht : Turned X w w') (hx : ¬ X r) : IntMap w' r l := by
 have hl := h.lt
 obtain ⟨es, c, h1, h2⟩ := h
 exact ⟨es, c, (ht.block r hl hx).trans h1, h2⟩
theorem MaskMap.turned {X : Nat → Prop} {w w' : World} {r : Nat} {M : Int → Nat} (h : MaskMap w r M) (ht : Turned X w w') (hx : ¬ X r) : MaskMap w' r M := by
 obtain ⟨l, h1, h2⟩ := h
 exact ⟨l, h1.turned ht hx, h2⟩
theorem MaskMap.below {B : Nat} {w w' : World} {r : Nat} {M : Int → Nat} (h : MaskMap w r M) (hb : Below B w w') (hr : r < B) : MaskMap w' r M := by
 obtain ⟨l, h1, h2⟩ := h
 exact ⟨l, h1.below hb hr, h2⟩
theorem MaskMap.ext {w w' : World} {r : Nat} {M : Int → Nat} (h : MaskMap w r M) (hb : Below w.heap.size w w') : MaskMap w' r M := h.below hb h.lt
theorem MaskMap.made (w : World) : MaskMap (w.alloc (.map #[] 0)) w.heap.size (fun _ => 0) := ⟨[], IntMap.made w, fun x => rfl⟩
theorem CellsN.turned {X : Nat → Prop} {w w' : World} {r : Nat} {c : Array Value} (h : CellsN w r c) (ht : Turned X w w') (hx : ¬ X r) : CellsN w' r c := by
 have hl := h.lt
 obtain ⟨t, h1⟩ := h
 exact ⟨t, (ht.block r hl hx).trans h1⟩
/-- bit j of the mask of a spot says whether the spot is of the end j -/
def MaskOk (E : List Int) (P : Int → Int → Bool) (M : Int → Nat) : Prop := ∀ s, M s < 18446744073709551616 ∧ ∀ j, j < E.length → (M s).testBit j = P s (nth E j)
def putM (M : Int → Nat) (x : Int) (v : Nat) : Int → Nat := fun y => if y = x then v else M y
theorem MaskMap.put {w' : World} {R : Nat} {M : Int → Nat} {l : AL} {x : Int} {v : Nat} (h : IntMap w' R (aset l x (maskV v))) (hl : ∀ x, (alook l x).getD (.int .u64 0) = maskV (M x)) : MaskMap w' R (putM M x v) := by
 refine ⟨_, h, fun y => ?_⟩
 rw [alook_aset]
 unfold putM
 by_cases e : y = x
 ·simp [e]
 ·simp [e, hl]
/-- the bit of each of the first i ends -/
def bitTo (E : List Int) (i : Nat) : Int → Nat := fun s => if hasB (E.take i) s then 2 ^ E.idxOf s else 0
theorem idxOf_nth {E : List Int} (hn : E.Nodup) {i : Nat} (hi : i < E.length) : E.idxOf (nth E i) = i := by
 have h := nth_idx (nth_mem hi)
 exact nth_inj hn h.1 hi h.2
theorem bitTo_step {E : List Int} (hn : E.Nodup) {i : Nat} (hi : i < E.length) : putM (bitTo E i) (nth E i) (2 ^ i) = bitTo E (i + 1) := by
 funext s
 unfold putM bitTo
 rw [hasB_take_succ hi]
 by_cases e : s = nth E i
 ·subst e
  simp [idxOf_nth hn hi]
 ·have e2 : (nth E i == s) = false := by simpa using fun h => e h.symm
  rw [if_neg e, e2, Bool.or_false]
theorem bitTo_zero (E : List Int) : bitTo E 0 = fun _ => 0 := by funext s; simp [bitTo, hasB]
theorem bitTo_ok {E : List Int} (hn : E.Nodup) (h64 : E.length ≤ 64) : MaskOk E (fun s e => s == e) (bitTo E E.length) := by
 intro s
 unfold bitTo
 rw [List.take_of_length_le (Nat.le_refl _)]
 by_cases hs : hasB E s = true
 ·rw [if_pos hs]
  have h := nth_idx (hasB_iff.1 hs)
  refine ⟨?_, fun j hj => ?_⟩
  ·calc 2 ^ E.idxOf s < 2 ^ 64 := Nat.pow_lt_pow_right (by omega) (by omega)
    _ = 18446744073709551616 := by decide
  ·rw [Nat.testBit_two_pow, Bool.eq_iff_iff]
   simp only [decide_eq_true_eq, beq_iff_eq]
   constructor
   ·intro e; rw [← e, h.2]
   ·intro e; rw [e, idxOf_nth hn hj]
 ·rw [if_neg hs]
  refine ⟨by decide, fun j hj => ?_⟩
  rw [Nat.zero_testBit]
  show false = (s == nth E j)
  cases e : s == nth E j with
  | false => rfl
  | true =>
   exfalso
   apply hs
   rw [hasB_iff, eq_of_beq e]
   exact nth_mem hj
/-- the disjunction of the masks of n spots from b on -/
def orM (M : Int → Nat) (b : Int) : Nat → Nat
 | 0 => 0
 | n + 1 => orM M b n ||| M (b + n)
theorem orM_lt {M : Int → Nat} {b : Int} (h : ∀ s, M s < 18446744073709551616) : ∀ n, orM M b n < 18446744073709551616
 | 0 => by simp [orM]
 | n + 1 => by
  have h1 := orM_lt (b := b) h n
  have h2 := h (b + n)
  exact Nat.or_lt_two_pow (n := 64) h1 h2
theorem orM_bit {M : Int → Nat} {b : Int} {P : Int → Bool} {j : Nat} (h : ∀ s, (M s).testBit j = P s) : ∀ n, (orM M b n).testBit j = anyN (fun i => P (b + i)) n
 | 0 => by simp [orM, anyN]
 | n + 1 => by simp only [orM, anyN, Nat.testBit_or, orM_bit h n, h]
theorem or_maskv {a b : Nat} (ha : a < 18446744073709551616) (hb : b < 18446744073709551616) : bits .or .u64 (a : Int) (b : Int) = ((a ||| b : Nat) : Int) := u64_or_nat a b ha hb
/-- what the masks are while the inputs of lot k are decided -/
def lotM (f : Flow) (M : Int → Nat) (k i : Nat) : Int → Nat := fun s => if hasB ((lotAt f.lots k).ins.take i) s then (if (lotAt f.lots k).known then M (beforeI f k + nth (lotAt f.lots k).perm ((lotAt f.lots k).ins.idxOf s)) else orM M (beforeI f k) (lotAt f.lots k).ins.length) else M s
theorem lotM_zero (f : Flow) (M : Int → Nat) (k : Nat) : lotM f M k 0 = M := by funext s; simp [lotM, hasB]
theorem lotM_step {f : Flow} {M : Int → Nat} {k i : Nat} (hn : (lotAt f.lots k).ins.Nodup) (hi : i < (lotAt f.lots k).ins.length) :
  putM (lotM f M k i) (nth (lotAt f.lots k).ins i) (if (lotAt f.lots k).known then M (beforeI f k + nth (lotAt f.lots k).perm i) else orM M (beforeI f k) (lotAt f.lots k).ins.length) = lotM f M k (i + 1) := by
 funext s
 unfold putM lotM
 rw [hasB_take_succ hi]
 by_cases e : s = nth (lotAt f.lots k).ins i
 ·subst e
  simp [idxOf_nth hn hi]
 ·have e2 : (nth (lotAt f.lots k).ins i == s) = false := by simpa using fun h => e h.symm
  rw [if_neg e, e2, Bool.or_false]
theorem putM_twice (M : Int → Nat) (x : Int) (a b : Nat) : putM (putM M x a) x b = putM M x b := by
 funext s
 unfold putM
 by_cases e : s = x <;> simp [e]
/-- the outputs of lot k are none of its inputs: their masks stay -/
theorem lotM_out {f : Flow} {M : Int → Nat} {k i : Nat} (hl : lotsB f f.lots.length = true) (hk : k < f.lots.length) {p : Int} (hp : 0 ≤ p) : lotM f M k i (beforeI f k + p) = M (beforeI f k + p) := by
 unfold lotM
 have h : hasB ((lotAt f.lots k).ins.take i) (beforeI f k + p) = false := by
  cases e : hasB ((lotAt f.lots k).ins.take i) (beforeI f k + p) with
  | false => rfl
  | true =>
   have h1 := not_in hl (k := k) (s := beforeI f k + p) (by omega) (Nat.le_refl _) hk
   rw [hasB_of_take e] at h1
   cases h1
 rw [h]
 rfl
theorem lotM_ok {f : Flow} {M : Int → Nat} {k : Nat} {E : List Int} (hk : k < f.lots.length) (h : MaskOk E (rAt f (k + 1)) M) : MaskOk E (rAt f k) (lotM f M k (lotAt f.lots k).ins.length) := by
 intro s
 unfold lotM
 rw [List.take_of_length_le (Nat.le_refl _)]
 refine ⟨?_, fun j hj => ?_⟩
 ·split
  ·split
   ·exact (h _).1
   ·exact orM_lt (fun s => (h s).1) _
  ·exact (h _).1
 ·rw [rAt_step hk]
  split
  ·split
   ·exact (h _).2 j hj
   ·exact orM_bit (P := fun s => rAt f (k + 1) s (nth E j)) (fun s => (h s).2 j hj) _
  ·exact (h _).2 j hj
theorem ends_nodup (f : Flow) : ∀ k, (endsTo f k).Nodup
 | 0 => by simp [endsTo]
 | k + 1 => by
  simp only [endsTo]
  split
  ·exact ends_nodup f k
  ·refine List.nodup_append.2 ⟨ends_nodup f k, by simp, fun a ha b hb e => ?_⟩
   have := (endsTo_mem f a k).1 ha
   simp only [List.mem_singleton] at hb
   omega
theorem ends_64 {f : Flow} (h : checkE f = 0) : (endsL f).length ≤ 64 := by
 obtain ⟨h0, h1, h2, h3, h4⟩ := checkE_ok h
 obtain ⟨p, hp⟩ := List.exists_mem_of_ne_nil _ (asg_ne h0 f.lots.length h4)
 have ha := asg_all h0 f.lots.length h4 p hp
 have hl := asg_len f.lots.length p hp
 have : (endsL f).length ≤ p.length := nodup_len (ends_nodup f _) (fun x hx => by
  have := (endsTo_mem f x _).1 hx
  exact (ha.2 x).2 ⟨this.1, by omega, this.2.2⟩)
 omega
/-- the first spots of the first k lots -/
def firstF (f : Flow) : Nat → List Int
 | 0 => []
 | k + 1 => firstF f k ++ [beforeI f k]
theorem firstF_len (f : Flow) : ∀ k, (firstF f k).length = k
 | 0 => rfl
 | k + 1 => by simp [firstF, firstF_len f k]
theorem firstF_at (f : Flow) : ∀ {k j : Nat}, j < k → nth (firstF f k) j = beforeI f j
 | k + 1, j, h => by
  unfold nth at *
  simp only [firstF]
  by_cases e : j < k
  ·rw [List.getD_eq_getElem?_getD, List.getElem?_append_left (by rw [firstF_len]; exact e), ← List.getD_eq_getElem?_getD]
   exact firstF_at f e
  ·obtain rfl : j = k := by omega
   rw [List.getD_eq_getElem?_getD, List.getElem?_append_right (by rw [firstF_len]; omega), firstF_len]
   simp
/-- the ends' numbers -/
def EndMap (w : World) (A : Nat) (E : List Int) (i : Nat) : Prop := ∃ l, IntMap w A l ∧ ∀ x, alook l x = if hasB (E.take i) x then some (.int .i64 (E.idxOf x : Nat)) else none
theorem EndMap.lt {w : World} {A i : Nat} {E : List Int} (h : EndMap w A E i) : A < w.heap.size := by obtain ⟨l, h, _⟩ := h; exact h.lt
theorem EndMap.turned {X : Nat → Prop} {w w' : World} {A i : Nat} {E : List Int} (h : EndMap w A E i) (ht : Turned X w w') (hx : ¬ X A) : EndMap w' A E i := by
 obtain ⟨l, h1, h2⟩ := h
 exact ⟨l, h1.turned ht hx, h2⟩
theorem EndMap.below {B : Nat} {w w' : World} {A i : Nat} {E : List Int} (h : EndMap w A E i) (hb : Below B w w') (hr : A < B) : EndMap w' A E i := by
 obtain ⟨l, h1, h2⟩ := h
 exact ⟨l, h1.below hb hr, h2⟩
theorem EndMap.ext {w w' : World} {A i : Nat} {E : List Int} (h : EndMap w A E i) (hb : Below w.heap.size w w') : EndMap w' A E i := h.below hb h.lt
theorem EndMap.step {w' : World} {A i : Nat} {E : List Int} {l : AL} (hn : E.Nodup) (hi : i < E.length) (h : IntMap w' A (aset l (nth E i) (.int .i64 (i : Nat)))) (hl : ∀ x, alook l x = if hasB (E.take i) x then some (.int .i64 (E.idxOf x : Nat)) else none) : EndMap w' A E (i + 1) := by
 refine ⟨_, h, fun x => ?_⟩
 rw [alook_aset, hasB_take_succ hi, hl]
 by_cases e : x = nth E i
 ·subst e
  simp [idxOf_nth hn hi]
 ·have e2 : (nth E i == x) = false := by simpa using fun h => e h.symm
  rw [if_neg e, e2, Bool.or_false]
theorem wp_of_entry {P : Program} {w : World} {o : Oper} {a : Act} {K : Act → World → Prop} {Q : Exit → Act → World → Prop} {T : TypeId} {m k : Operand} (ho : o.op = .mapEntry T m k) {vm vk v' : Value} {w' : World} (hm : a.eval m = vm) (hk : a.eval k = vk)
  (hrun : (Instr.mapEntry T vm vk).run P w = .ok v' w') (h : K (a.put o.dst v') w') : o.wp P a w K Q := by
 unfold Oper.wp
 simp only [execOp, ho, hm, hk]
 simp [hrun, Result.andThen]
 exact h
theorem wp_of_entryStore {P : Program} {w : World} {o : Oper} {a : Act} {K : Act → World → Prop} {Q : Exit → Act → World → Prop} {T : TypeId} {m s x : Operand} (ho : o.op = .entryStore T m s x) {vm vs vx : Value} {w' : World} (hm : a.eval m = vm) (hs : a.eval s = vs) (hx : a.eval x = vx)
  (hrun : (Instr.entryStore T vm vs vx).run P w = .ok () w') (h : K (a.put o.dst undef) w') : o.wp P a w K Q := by
 unfold Oper.wp
 simp only [execOp, ho, hm, hs, hx]
 simp [hrun, Result.andThen]
 exact h
structure EntR (P : Program) (TA TR : TypeId) (A R : Nat) (lA lR : AL) (e : Int) (vA vR : Value) (W0 : World) (b13 b14 b15 b16 b17 b18 : Bool) (x13 x14 x16 x17 : Value) (w : World) : Prop where
 ne : A ≠ R
 tu : Turned (fun k => k = A ∨ k = R) W0 w
 a0 : b13 = false → IntMap w A lA
 a1 : b13 = true → b15 = false → ∃ v0 st, x13 = .tuple #[v0, st] ∧ EntryAt P TA w A lA e st ∧ (b14 = true → x14 = st)
 a2 : b15 = true → IntMap w A (aset lA e vA)
 r0 : b16 = false → IntMap w R lR
 r1 : b16 = true → b18 = false → ∃ v0 st, x16 = .tuple #[v0, st] ∧ EntryAt P TR w R lR e st ∧ (b17 = true → x17 = st)
 r2 : b18 = true → IntMap w R (aset lR e vR)
 o15 : b15 = true → b13 = true
 o18 : b18 = true → b16 = true
section
variable {P : Program} {TA TR : TypeId} {A R : Nat} {lA lR : AL} {e : Int} {vA vR : Value} {W0 : World} {b13 b14 b15 b16 b17 b18 : Bool} {x13 x14 x16 x17 : Value} {w : World}
theorem EntR.start (ne : A ≠ R) (hA : IntMap W0 A lA) (hR : IntMap W0 R lR) (n : Nat) : EntR P TA TR A R lA lR e vA vR W0 false false false false false false x13 x14 x16 x17 (W0.drewN n) where
 ne := ne
 tu := ⟨rfl, rfl, rfl, Nat.le_refl _, fun _ _ _ => rfl⟩
 a0 := fun _ => hA
 a1 := fun e => by cases e
 a2 := fun e => by cases e
 r0 := fun _ => hR
 r1 := fun e => by cases e
 r2 := fun e => by cases e
 o15 := fun e => by cases e
 o18 := fun e => by cases e
theorem IntMap.grownN {w w' : World} {r q : Nat} {l : AL} (h : IntMap w r l) (hg : w.grownBy w' (some q)) (hne : r ≠ q) : IntMap w' r l := by
 have hl := h.lt
 obtain ⟨es, c, h1, h2⟩ := h
 exact ⟨es, c, (hg.block r hl (fun e => hne (by simpa using e))).trans h1, h2⟩
theorem EntryAt.lt (h : EntryAt P TA w A lA e x13) : A < w.heap.size := by obtain ⟨o, h, _⟩ := h; exact (Array.getElem?_eq_some_iff.1 h).1
variable (h : EntR P TA TR A R lA lR e vA vR W0 b13 b14 b15 b16 b17 b18 x13 x14 x16 x17 w)
include h
theorem EntR.s13 (hi : b13 = false) (d14 : b14 = false) {v0 st : Value} {w' : World} (hg : w.grownBy w' (some A)) (he : EntryAt P TA w' A lA e st) : EntR P TA TR A R lA lR e vA vR W0 true b14 b15 b16 b17 b18 (.tuple #[v0, st]) x14 x16 x17 w' := by
 have e15 : b15 = false := by
  cases e5 : b15 with
  | false => rfl
  | true => have := h.o15 e5; rw [hi] at this; cases this
 have hne := h.ne
 exact {
  ne := h.ne, tu := h.tu.trans (Turned.of_grown hg (fun k e => .inl (by simpa using e.symm))), a0 := (fun e => by cases e), a1 := (fun _ _ => ⟨v0, st, rfl, he, (fun e => by rw [d14] at e; cases e)⟩), a2 := (fun e => by rw [e15] at e; cases e),
  r0 := (fun e => (h.r0 e).grownN hg (fun e => hne e.symm)), r1 := (fun e e' => by
   obtain ⟨a, b, c, d, f⟩ := h.r1 e e'
   exact ⟨a, b, c, d.kept (hg.block R d.lt (fun e => hne (by simpa using e.symm))), f⟩),
  r2 := (fun e => (h.r2 e).grownN hg (fun e => hne e.symm)), o15 := (fun _ => rfl), o18 := h.o18 }
theorem EntR.s14 (d13 : b13 = true) (d15 : b15 = false) : ∃ v0 st, x13 = .tuple #[v0, st] ∧ EntR P TA TR A R lA lR e vA vR W0 b13 true b15 b16 b17 b18 x13 st x16 x17 w := by
 obtain ⟨v0, st, a, b, c⟩ := h.a1 d13 d15
 exact ⟨v0, st, a, { ne := h.ne, tu := h.tu, a0 := h.a0, a1 := (fun _ _ => ⟨v0, st, a, b, (fun _ => rfl)⟩), a2 := h.a2, r0 := h.r0, r1 := h.r1, r2 := h.r2, o15 := h.o15, o18 := h.o18 }⟩
theorem EntR.s15 (d13 : b13 = true) (d14 : b14 = true) (hi : b15 = false) : ∃ w', (Instr.entryStore TA (.map (some A)) x14 vA).run P w = .ok () w' ∧ EntR P TA TR A R lA lR e vA vR W0 b13 b14 true b16 b17 b18 x13 x14 x16 x17 w' := by
 obtain ⟨v0, st, a, ⟨o, b1, b2⟩, c⟩ := h.a1 d13 hi
 obtain ⟨w', q1, q2, q3, q4⟩ := b2 w vA b1
 rw [← c d14] at q1
 have hne := h.ne
 exact ⟨w', q1, {
  ne := h.ne, tu := h.tu.trans (Turned.of_grown q3 (fun k e => .inl (by simpa using e.symm))), a0 := (fun e => by rw [d13] at e; cases e), a1 := (fun _ e => by cases e), a2 := (fun _ => q2),
  r0 := (fun e => (h.r0 e).grownN q3 (fun e => hne e.symm)), r1 := (fun e e' => by
   obtain ⟨a, b, c, d, f⟩ := h.r1 e e'
   exact ⟨a, b, c, d.kept (q3.block R d.lt (fun e => hne (by simpa using e.symm))), f⟩),
  r2 := (fun e => (h.r2 e).grownN q3 (fun e => hne e.symm)), o15 := (fun _ => d13), o18 := h.o18 }⟩
theorem EntR.s16 (hi : b16 = false) (d17 : b17 = false) {v0 st : Value} {w' : World} (hg : w.grownBy w' (some R)) (he : EntryAt P TR w' R lR e st) : EntR P TA TR A R lA lR e vA vR W0 b13 b14 b15 true b17 b18 x13 x14 (.tuple #[v0, st]) x17 w' := by
 have e18 : b18 = false := by
  cases e5 : b18 with
  | false => rfl
  | true => have := h.o18 e5; rw [hi] at this; cases this
 have hne := h.ne
 exact {
  ne := h.ne, tu := h.tu.trans (Turned.of_grown hg (fun k e => .inr (by simpa using e.symm))), r0 := (fun e => by cases e), r1 := (fun _ _ => ⟨v0, st, rfl, he, (fun e => by rw [d17] at e; cases e)⟩), r2 := (fun e => by rw [e18] at e; cases e),
  a0 := (fun e => (h.a0 e).grownN hg hne), a1 := (fun e e' => by
   obtain ⟨a, b, c, d, f⟩ := h.a1 e e'
   exact ⟨a, b, c, d.kept (hg.block A d.lt (fun e => hne (by simpa using e))), f⟩),
  a2 := (fun e => (h.a2 e).grownN hg hne), o18 := (fun _ => rfl), o15 := h.o15 }
theorem EntR.s17 (d16 : b16 = true) (d18 : b18 = false) : ∃ v0 st, x16 = .tuple #[v0, st] ∧ EntR P TA TR A R lA lR e vA vR W0 b13 b14 b15 b16 true b18 x13 x14 x16 st w := by
 obtain ⟨v0, st, a, b, c⟩ := h.r1 d16 d18
 exact ⟨v0, st, a, { ne := h.ne, tu := h.tu, r0 := h.r0, r1 := (fun _ _ => ⟨v0, st, a, b, (fun _ => rfl)⟩), r2 := h.r2, a0 := h.a0, a1 := h.a1, a2 := h.a2, o15 := h.o15, o18 := h.o18 }⟩
theorem EntR.s18 (d16 : b16 = true) (d17 : b17 = true) (hi : b18 = false) : ∃ w', (Instr.entryStore TR (.map (some R)) x17 vR).run P w = .ok () w' ∧ EntR P TA TR A R lA lR e vA vR W0 b13 b14 b15 b16 b17 true x13 x14 x16 x17 w' := by
 obtain ⟨v0, st, a, ⟨o, b1, b2⟩, c⟩ := h.r1 d16 hi
 obtain ⟨w', q1, q2, q3, q4⟩ := b2 w vR b1
 rw [← c d17] at q1
 have hne := h.ne
 exact ⟨w', q1, {
  ne := h.ne, tu := h.tu.trans (Turned.of_grown q3 (fun k e => .inr (by simpa using e.symm))), r0 := (fun e => by rw [d16] at e; cases e), r1 := (fun _ e => by cases e), r2 := (fun _ => q2),
  a0 := (fun e => (h.a0 e).grownN q3 hne), a1 := (fun e e' => by
   obtain ⟨a, b, c, d, f⟩ := h.a1 e e'
   exact ⟨a, b, c, d.kept (q3.block A d.lt (fun e => hne (by simpa using e))), f⟩),
  a2 := (fun e => (h.a2 e).grownN q3 hne), o18 := (fun _ => d16), o15 := h.o15 }⟩
theorem EntR.cell {k i : Nat} (hk : k < W0.heap.size) (h1 : k ≠ A) (h2 : k ≠ R) : w.cell? ⟨k, i, none⟩ = W0.cell? ⟨k, i, none⟩ := h.tu.cell (p := ⟨k, i, none⟩) hk (by rintro (e | e); exact h1 e; exact h2 e)
end
end Go.Proofs.Yteiaeaciaglmgaa
set_option linter.unusedVariables false
set_option linter.unusedSimpArgs false
namespace Go.Proofs.Yteiaeaciaglmgaa
open Go.RowKit
theorem FrameV.re {a0 a : Act} {ds : List (Option Nat)} {L : Nat → Bool} {xs : Nat → Value} (h : FrameV a0 ds L xs a) (i : Nat) {d : Nat} (hd : ds[i]? = some (some d)) (hL : L i = false) : a.eval (.tmp d) = a0.eval (.tmp d) := h.rest i d hd hL
theorem wpIn_of_lookup {F : Fence} {n : Nat} {P : Program} {w : World} {o : Oper} {a : Act} {K : Act → World → Prop} {Q : Exit → Act → World → Prop} {T : TypeId} {m k : Operand} {ok : Bool} (ho : o.op = .lookup T m k ok) {vm vk v' : Value} {w' : World} (hm : a.eval m = vm) (hk : a.eval k = vk)
  (hrun : (Instr.lookup T vm vk ok).run P w = .ok v' w') (h : K (a.put o.dst v') w') : o.wpIn F n P a w K Q := by
 unfold Oper.wpIn
 refine ⟨fun f hf => by simp [Oper.about, ho] at hf, ?_⟩
 rw [Oper.semAt_plain F _ _ (by intro c hc; rw [ho] at hc; cases hc)]
 simp only [execOp, ho, hm, hk]
 simp [hrun, Result.andThen]
 exact h
theorem wpIn_of_update {F : Fence} {n : Nat} {P : Program} {w : World} {o : Oper} {a : Act} {K : Act → World → Prop} {Q : Exit → Act → World → Prop} {T : TypeId} {m k x : Operand} (ho : o.op = .mapUpdate T m k x) {vm vk vx : Value} {w' : World} (hm : a.eval m = vm) (hk : a.eval k = vk) (hx : a.eval x = vx)
  (hrun : (Instr.mapUpdate T vm vk vx).run P w = .ok () w') (h : K (a.put o.dst undef) w') : o.wpIn F n P a w K Q := by
 unfold Oper.wpIn
 refine ⟨fun f hf => by simp [Oper.about, ho] at hf, ?_⟩
 rw [Oper.semAt_plain F _ _ (by intro c hc; rw [ho] at hc; cases hc)]
 simp only [execOp, ho, hm, hk, hx]
 simp [hrun, Result.andThen]
 exact h
/-- slices.Backward of lots -/
theorem back_any (w : World) (a : Option Addr) (n cap : Nat) :
  Calls Try.prog 55 #[.slice a n cap] w fun e w' => e = .returned (.func (.func 81) #[] #[.pointer (some ⟨w.heap.size, 0, none⟩)]) ∧ w' = w.alloc (.cells #[.slice a n cap] 22) := by
 have hmf := @run_makeFunc_any Try.prog
 go_enter Try.func55, Try.ntmps55
 go_wp2
 go_ret
 exact ⟨rfl, rfl⟩
set_option maxHeartbeats 2000000 in
set_option maxRecDepth 100000 in
/-- the iterator of slices.Backward -/
theorem back_iter (B bf : Nat) (w : World) (a : Option Addr) (cap : Nat) (ls : List Lot) (hf : IsLots B w (.slice a ls.length cap) ls) (hB : B ≤ w.heap.size) (hx : Box w bf #[.slice a ls.length cap]) (h2 : ls.length ≤ 2000) :
  IterC Try.prog 81 #[.pointer (some ⟨bf, 0, none⟩)] ls.length (fun i _ args => ∃ vi vk vp, args = #[.int .i64 ((ls.length - 1 - i : Nat) : Int), .agg #[vi, vk, vp]] ∧ IsLot B w vi vk vp (lotAt ls (ls.length - 1 - i))) (fun k => k < B ∨ k = bf) w := by
 intro l ob W J Jx hwW hob hJ hJx hst hY
 have hBw : Below B w W := hwW.below hB (fun k hk hn => hn (Or.inl hk))
 have hBW : B ≤ W.heap.size := Nat.le_trans hB hwW.size
 have hxW := hx.turned hwW (fun hn => hn (Or.inr rfl))
 have HX := Lib.hid hxW
 have HOB := Lib.hid hob
 have HJ := Lib.hid hJ
 have HJX := Lib.hid hJx
 have HST := Lib.hid hst
 have HY := Lib.hid hY
 have HBW := Lib.hid hBw
 have HSW := Lib.hid hBW
 obtain ⟨b, off, cap', ⟨a', e, hcap, hmax, ha⟩, hlen, hc⟩ := hf
 obtain ⟨rfl, rfl⟩ : a = a' ∧ cap = cap' := by simpa using e
 have HC := Lib.hid hc
 have HA := Lib.hid ha
 clear hob hJ hJx hst hY hxW hBw hx hwW hc ha hBW e
 obtain ⟨zx, rx⟩ := HX.out
 refine callsIn_of_wp Try.func81 rfl trivial ?_ rfl
 simp only [Try.ntmps81, List.size_toArray, List.length_cons, List.length_nil, Nat.reduceAdd, Nat.reduceSub, Array.replicate_succ, Array.replicate_zero, List.push_toArray, List.append_toArray, List.nil_append, List.cons_append]
 gi_wp2
 obtain ⟨n, hn⟩ : ∃ x, ls.length = x := ⟨_, rfl⟩
 have HN := Lib.hid hn
 rw [hn] at HC HX HY HA h2 rx ⊢
 clear hn
 gi_loopw [3] (fun i' W2 => ∃ i : Nat, i ≤ n ∧ i' = .int .i64 ((n : Int) - 1 - i) ∧ W.heap.size ≤ W2.heap.size ∧ Box W2 bf #[.slice a n cap] ∧ Below B w W2 ∧ J W.heap.size i W2) (fun i' _ => (intOf i' + 1).toNat)
 case atStart => exact ⟨0, by omega, by go_num, Nat.le_refl _, HX.out, HBW.out, HST.out _ _ (Nat.le_refl _) (Nat.le_refl _) (Below.refl _ _)⟩
 case round =>
  obtain ⟨i, hi, rfl, hz, hbx, hbw, hj⟩ := hrel
  have HZ := Lib.hid hz
  have HJ3 := Lib.hid hj
  have HB3 := Lib.hid hbw
  have HX3 := Lib.hid hbx
  have rx3 := hbx.2
  clear hz hj hbw hbx rx
  by_cases hlt : i < n
  ·have hge : decide (0 ≤ (n : Int) - 1 - i) = true := decide_eq_true (by omega)
   obtain rfl : a = some ⟨b, off, none⟩ := by rcases HA.out with h | h; exact h; omega
   obtain ⟨vi, vk, vp, q1, q2, q3, hlot⟩ := HC.out (n - 1 - i) (by omega)
   obtain ⟨j, hj⟩ : ∃ j, n - 1 - i = j := ⟨_, rfl⟩
   have hji : (n : Int) - 1 - i = (j : Int) := by omega
   have hjn : j < n := by omega
   rw [hj] at q1 q2 q3 hlot
   have HYY := Lib.hid (HY.out W.heap.size i wr _ (Nat.le_refl _) HZ.out hlt HJ3.out ⟨vi, vk, vp, rfl, by rw [hj]; exact hlot⟩)
   rw [hj] at HYY
   have hi1 : (n : Int) - 1 - i - 1 = (n : Int) - 1 - (i + 1 : Nat) := by omega
   have HI1 := Lib.hid hi1
   have HIJ := Lib.hid hji
   have c1 := (q1.below HB3.out (Nat.le_refl _)).2
   have c2 := (q2.below HB3.out (Nat.le_refl _)).2
   have c3 := (q3.below HB3.out (Nat.le_refl _)).2
   obtain ⟨fn, tmps, assign, body, hy, hR⟩ := HYY.out
   have HR := Lib.hid hR
   obtain ⟨hl1, rfl, hl3⟩ := hlot
   obtain ⟨ai, ci, rfl⟩ := hl1.form
   obtain ⟨ap, cp, rfl⟩ := hl3.form
   rw [hji]
   clear hR hi1 hji hj HYY q1 q2 q3 hl1 hl3 hge
   have h1 : Fence.wide.depth.isSome = true → 1 ≤ 10 := fun _ => by omega
   gi_wp2
   refine HR.out.mono ?_
   have HOW : Hid (∀ k, ob k ∨ W.heap.size ≤ k → ¬ (k < B ∨ k = bf)) := Lib.hid fun q hq => by
    rcases hq with hq | hq
    ·exact (HOB.out q hq).2
    ·have := HSW.out; have := HX.out.1; omega
   rintro e W' (⟨rfl, hJ', ht⟩ | ⟨rfl, hJx', ht⟩)
   ·have HJ4 := Lib.hid hJ'
    have HT4 := Lib.hid ht
    clear hJ' ht
    gi_wp2
    go_roundw
    case rel => exact ⟨i + 1, by omega, by have := HIJ.out; go_num, by have := HT4.out.size; have := HZ.out; omega, HX3.out.turned HT4.out (fun h => HOW.out _ h (.inr rfl)), HB3.out.trans (HT4.out.below (by have := HB3.out.size; omega) (fun k hk h => HOW.out _ h (.inl hk))), HJ4.out⟩
    case measure => have := HIJ.out; simp [intOf] <;> omega
   ·have HJ4 := Lib.hid hJx'
    have HT4 := Lib.hid ht
    clear hJx' ht
    gi_wp2
    refine bodyPost_ret (results_none rfl _ _ _) rfl ?_
    exact ⟨⟨_, rfl⟩, W.heap.size, Nat.le_refl _, by have := HT4.out.size; have := HZ.out; omega, Or.inr ⟨_, by rw [HN.out]; exact hlt, HJ4.out⟩⟩
  ·obtain rfl : i = n := by omega
   have hge : decide (0 ≤ (i : Int) - 1 - i) = false := decide_eq_false (by omega)
   gi_wp2
   go_end0
   exact ⟨⟨_, rfl⟩, W.heap.size, Nat.le_refl _, HZ.out, Or.inl (by rw [HN.out]; exact HJ3.out)⟩
end Go.Proofs.Yteiaeaciaglmgaa
set_option linter.unusedVariables false
set_option linter.unusedSimpArgs false
namespace Go.Proofs.Yteiaeaciaglmgaa
open Go.RowKit
attribute [local go_sem] Oper.semAt_some
/-- what newLots has made while it runs -/
structure NewL (s A R q p : Nat) (w wr : World) (fx : Array Value) (vl vF : Value) (xs : List Int) (E : List Int) (i : Nat) (M : Int → Nat) : Prop where
 hb : Below s w wr
 box : Box wr s fx
 nm : A = s + 1 ∧ R = s + 1 + 1 ∧ q = s + 1 + 1 + 1 ∧ p = s + 1 + 1 + 1 + 1
 cs : CellsN wr q #[vl, vF, .map (some A), .map (some R)]
 own : OwnInts (s + 5) wr vF xs
 ptr : Cell1 wr p (.pointer (some ⟨q, 0, none⟩))
 em : EndMap wr A E i
 mm : MaskMap wr R M
section
variable {s A R q p : Nat} {w wr : World} {fx : Array Value} {vl vF : Value} {xs : List Int} {E : List Int} {i : Nat} {M : Int → Nat}
theorem NewL.size (h : NewL s A R q p w wr fx vl vF xs E i M) : s + 5 ≤ wr.heap.size := by have := h.ptr.lt; have := h.nm; omega
theorem OwnInts.turnedO {X : Nat → Prop} {B : Nat} {w w' : World} {v : Value} {xs : List Int} (h : OwnInts B w v xs) (ht : Turned X w w') (hx : ∀ k, v.ownBlock = some k → ¬ X k) : OwnInts B w' v xs := by
 refine ⟨⟨h.1.1, ?_⟩, h.2⟩
 rcases h.1.2 with hn | ⟨g, cap, cur, hv, hb, hg, rest⟩
 ·exact Or.inl hn
 ·exact Or.inr ⟨g, cap, cur, hv, hb, (ht.block g (Array.getElem?_eq_some_iff.1 hg).1 (hx g (by rw [hv]; rfl))).trans hg, rest⟩
theorem NewL.turned {X : Nat → Prop} {w' : World} (h : NewL s A R q p w wr fx vl vF xs E i M) (ht : Turned X wr w') (hx : ∀ k, k < s + 5 ∨ vF.ownBlock = some k → ¬ X k) : NewL s A R q p w w' fx vl vF xs E i M :=
 by
 obtain ⟨n1, n2, n3, n4⟩ := h.nm
 exact ⟨h.hb.trans (ht.below (Nat.le_trans (by omega) h.size) (fun k hk => hx k (by omega))), h.box.turned ht (hx _ (by omega)), h.nm, h.cs.turned ht (hx _ (by omega)), h.own.turnedO ht (fun k hk => hx k (.inr hk)), h.ptr.turned ht (hx _ (by omega)), h.em.turned ht (hx _ (by omega)), h.mm.turned ht (hx _ (by omega))⟩
theorem NewL.ext {w' : World} (h : NewL s A R q p w wr fx vl vF xs E i M) (hb : Below wr.heap.size wr w') : NewL s A R q p w w' fx vl vF xs E i M :=
 h.turned (X := fun _ => False) ⟨hb.os, hb.tape, hb.output, hb.size, fun k hk _ => hb.block k hk⟩ (fun _ _ e => e)
theorem NewL.maps {w' : World} {i' : Nat} {M' : Int → Nat} (h : NewL s A R q p w wr fx vl vF xs E i M) (ht : Turned (fun k => k = A ∨ k = R) wr w') (em : EndMap w' A E i') (mm : MaskMap w' R M') : NewL s A R q p w w' fx vl vF xs E i' M' := by
 obtain ⟨n1, n2, n3, n4⟩ := h.nm
 have hsz := h.size
 have hx : ∀ k, k ≠ A → k ≠ R → ¬ (k = A ∨ k = R) := fun k h1 h2 e => by rcases e with e | e; exact h1 e; exact h2 e
 exact ⟨h.hb.trans (ht.below (by omega) (fun k hk => hx k (by omega) (by omega))), h.box.turned ht (hx _ (by omega) (by omega)), h.nm, h.cs.turned ht (hx _ (by omega) (by omega)), h.own.turnedO ht (fun k hk => by have := (h.own.ltX k hk).1; exact hx _ (by omega) (by omega)), h.ptr.turned ht (hx _ (by omega) (by omega)), em, mm⟩
theorem NewL.app {w' : World} {n : Int} {fb fa fs : Bool} {xb xa : Value} (h : NewL s A R q p w wr fx vl vF xs E i M) (hA : ApC (s + 5) q 1 #[vl, vF, .map (some A), .map (some R)] wr vF xs n fb fa fs xb xa w') (hs : fs = true) : NewL s A R q p w w' fx vl xa (xs ++ [n]) E i M := by
 obtain ⟨n1, n2, n3, n4⟩ := h.nm
 have hsz := h.size
 have hx : ∀ k, k < s + 5 → k ≠ q → ¬ (k = q ∨ vF.ownBlock = some k) := by
  rintro k h1 h2 (e | e)
  ·exact h2 e
  ·have := hA.hv k e; omega
 exact ⟨h.hb.trans (hA.tu.below (by omega) (fun k hk => hx k (by omega) (by omega))), h.box.turned hA.tu (hx _ (by omega) (by omega)), h.nm, by simpa using hA.he hs, hA.ha (hA.cz hs), h.ptr.turned hA.tu (hx _ (by omega) (by omega)), h.em.turned hA.tu (hx _ (by omega) (by omega)), h.mm.turned hA.tu (hx _ (by omega) (by omega))⟩
end
theorem OwnInts.at {B : Nat} {w : World} {a : Option Addr} {n c : Nat} {xs : List Int} (h : OwnInts B w (.slice a n c) xs) {k : Nat} (hk : k < xs.length) : ∃ b o, a = some ⟨b, o, none⟩ ∧ n = xs.length ∧ w.cell? ⟨b, o + k, none⟩ = some (.int .i64 (nth xs k)) := by
 obtain ⟨b, o, c', ⟨a', he, _, _, ha⟩, _, _, hc⟩ := h.isInts
 obtain ⟨rfl, rfl, rfl⟩ : a = a' ∧ n = xs.length ∧ c = c' := by simpa using he
 refine ⟨b, o, ?_, rfl, (hc k hk).2⟩
 rcases ha with h | h
 ·exact h
 ·omega
theorem OwnInts.isX {B C : Nat} {w : World} {v : Value} {xs : List Int} (h : OwnInts B w v xs) (hC : C ≤ B) : IsIntsX (fun k => C ≤ k ∧ k < w.heap.size) w v xs := by
 obtain ⟨b, o, c', ⟨a', he, h1, h2, ha⟩, h3, h4, hc⟩ := h.isInts
 refine ⟨b, o, c', ⟨a', he, h1, h2, ha⟩, h3, h4, fun j hj => ⟨⟨?_, (hc j hj).1⟩, (hc j hj).1, (hc j hj).2⟩⟩
 rcases ha with e | e
 ·subst e
  have := (h.ltX b (by rw [he]; rfl)).1
  omega
 ·omega
/-- a flow's lots, as explain has them -/
structure LotsAt (C D : Nat) (w : World) (q : Nat) (vl : Value) (f : Flow) : Prop where
 lay : ∃ vF A R M, (C ≤ q ∧ q < D) ∧ (C ≤ A ∧ A < D) ∧ (C ≤ R ∧ R < D) ∧ D ≤ w.heap.size ∧ CellsN w q #[vl, vF, .map (some A), .map (some R)] ∧ IsIntsX (fun k => C ≤ k ∧ k < D) w vF (firstF f f.lots.length) ∧
  EndMap w A (endsL f) (endsL f).length ∧ MaskMap w R M ∧ MaskOk (endsL f) (rAt f 0) M
theorem NewL.lots {s A R q p : Nat} {w wr : World} {fx : Array Value} {vl vF : Value} {M : Int → Nat} {D : Nat} {f : Flow} (h : NewL s A R q p w wr fx vl vF (firstF f f.lots.length) (endsL f) (endsL f).length M) (hD : D = wr.heap.size) (hm : MaskOk (endsL f) (rAt f 0) M) : LotsAt s D wr q vl f := by
 obtain ⟨n1, n2, n3, n4⟩ := h.nm
 have hsz := h.size
 subst hD
 exact ⟨vF, A, R, M, ⟨by omega, by omega⟩, ⟨by omega, by omega⟩, ⟨by omega, by omega⟩, Nat.le_refl _, h.cs, h.own.isX (by omega), h.em, h.mm, hm⟩
theorem LotsAt.turned {X : Nat → Prop} {C D : Nat} {w w' : World} {q : Nat} {vl : Value} {f : Flow} (h : LotsAt C D w q vl f) (ht : Turned X w w') (hx : ∀ k, C ≤ k → k < D → ¬ X k) : LotsAt C D w' q vl f := by
 obtain ⟨vF, A, R, M, h1, h2, h3, h4, h5, h6, h7, h8, h9⟩ := h.lay
 exact ⟨vF, A, R, M, h1, h2, h3, Nat.le_trans h4 ht.size, h5.turned ht (hx _ h1.1 h1.2), h6.turned ht (fun k hk => hx k hk.1 hk.2), h7.turned ht (hx _ h2.1 h2.2), h8.turned ht (hx _ h3.1 h3.2), h9⟩
theorem LotsAt.ext {C D : Nat} {w w' : World} {q : Nat} {vl : Value} {f : Flow} (h : LotsAt C D w q vl f) (hb : Below w.heap.size w w') : LotsAt C D w' q vl f :=
 h.turned (X := fun _ => False) ⟨hb.os, hb.tape, hb.output, hb.size, fun k hk _ => hb.block k hk⟩ (fun _ _ _ e => e)
def pwI (i : Nat) : Int := ((2 ^ i : Nat) : Int)
theorem shl_mask (i : Nat) (hi : i < 64) : IntKind.u64.wrap ((2 : Int) ^ i) = pwI i := by
 have h : 2 ^ i < 18446744073709551616 := by
  calc 2 ^ i < 2 ^ 64 := Nat.pow_lt_pow_right (by omega) hi
   _ = 18446744073709551616 := by decide
 have e : (2 : Int) ^ i = ((2 ^ i : Nat) : Int) := by simp
 rw [e]
 unfold pwI
 generalize 2 ^ i = n at h
 simp only [IntKind.wrap, IntKind.bits, IntKind.signed]
 simp
 omega
set_option maxHeartbeats 8000000 in
set_option maxRecDepth 100000 in
/-- explain.newLots -/
theorem newLots_any (B : Nat) (w : World) (vs vl : Value) (f : Flow) (hf : IsFlow B w vs vl f) (hB : B ≤ w.heap.size) (h0 : checkE f = 0) :
  Calls Try.prog 32 #[.agg #[vs, vl]] w fun e w' => ∃ q, e = .returned (.pointer (some ⟨q, 0, none⟩)) ∧ LotsAt w.heap.size w'.heap.size w' q vl f ∧ Below w.heap.size w w' := by
 have HF := Lib.hid hf
 obtain ⟨rfl, ⟨hs1, hs2⟩, hl⟩ := hf
 obtain ⟨b, off, cap, ⟨a, rfl, hcap, hmax, ha⟩, hlen, hc⟩ := hl
 have HC := Lib.hid hc
 have HA := Lib.hid ha
 have H0 := Lib.hid h0
 have HK := Lib.hid (checkE_ok h0)
 have hl2 : f.lots.length ≤ 2000 := HK.out.2.2.1
 have HI := Lib.hid (fun k (hk : k < f.lots.length) => ok_ins h0 hk)
 have hmm := @run_makeMap Try.prog
 clear hc ha h0
 refine callsIn_wide.1 (callsIn_of_wp_marks (n := 11) Try.func32 rfl trivial (wpIn_wide.2 ?_))
 simp only [Try.ntmps32, List.size_toArray, List.length_cons, List.length_nil, Nat.reduceAdd, Nat.reduceSub, Array.replicate_succ, Array.replicate_zero, List.push_toArray, List.append_toArray, List.nil_append, List.cons_append]
 go_upto_region 3 with fail
 refine wp_name (fun W1 hW1 => ?_)
 obtain ⟨E, hE⟩ : ∃ x, endsL f = x := ⟨_, rfl⟩
 have HEE := Lib.hid hE
 have hn0 := (show NewL w.heap.size (w.heap.size + 1) (w.heap.size + 1 + 1) (w.heap.size + 1 + 1 + 1) (w.heap.size + 1 + 1 + 1 + 1) w W1 #[.int .i64 f.senders, .slice a f.lots.length cap] (.slice a f.lots.length cap) (.slice none 0 0) [] E 0 (fun _ => 0) by
  rw [hW1]
  refine ⟨?_, ?_, ⟨rfl, rfl, rfl, rfl⟩, ?_, OwnInts.nil _ _, ?_, ?_, ?_⟩
  ·exact (((((box_below' w _).alloc (by simp) _).alloc (by simp; omega) _).alloc (by simp; omega) _).alloc (by simp; omega) _)
  ·exact ((((Box.new w #[.int .i64 f.senders, .slice a f.lots.length cap] 24).alloc _).alloc _).alloc _).alloc _
  ·have h := CellsN.new (((w.alloc (.cells #[.int .i64 f.senders, .slice a f.lots.length cap] 24)).alloc (.map #[] 0)).alloc (.map #[] 0)) #[.slice a f.lots.length cap, .slice none 0 0, .map (some (w.heap.size + 1)), .map (some (w.heap.size + 1 + 1))] 67
   simp only [World.size_alloc] at h
   exact h.alloc _
  ·have h := Cell1.new ((((w.alloc (.cells #[.int .i64 f.senders, .slice a f.lots.length cap] 24)).alloc (.map #[] 0)).alloc (.map #[] 0)).alloc (.cells #[.slice a f.lots.length cap, .slice none 0 0, .map (some (w.heap.size + 1)), .map (some (w.heap.size + 1 + 1))] 67)) (.pointer (some ⟨w.heap.size + 1 + 1 + 1, 0, none⟩)) 60
   simp only [World.size_alloc] at h
   exact h
  ·have h : EndMap ((w.alloc (.cells #[.int .i64 f.senders, .slice a f.lots.length cap] 24)).alloc (.map #[] 0)) (w.heap.size + 1) E 0 := ⟨[], by have h := IntMap.made (w.alloc (.cells #[.int .i64 f.senders, .slice a f.lots.length cap] 24)); rw [World.size_alloc] at h; exact h, fun x => by simp [alook, hasB]⟩
   exact ((h.ext (box_below' _ _)).ext (box_below' _ _)).ext (box_below' _ _)
  ·have h := MaskMap.made ((w.alloc (.cells #[.int .i64 f.senders, .slice a f.lots.length cap] 24)).alloc (.map #[] 0))
   simp only [World.size_alloc] at h
   exact (h.ext (box_below' _ _)).ext (box_below' _ _))
 clear hW1
 obtain ⟨p, hp⟩ : ∃ x, w.heap.size + 1 + 1 + 1 + 1 = x := ⟨_, rfl⟩
 obtain ⟨q, hq⟩ : ∃ x, w.heap.size + 1 + 1 + 1 = x := ⟨_, rfl⟩
 obtain ⟨R, hR⟩ : ∃ x, w.heap.size + 1 + 1 = x := ⟨_, rfl⟩
 obtain ⟨A, hA⟩ : ∃ x, w.heap.size + 1 = x := ⟨_, rfl⟩
 rw [hp, hq, hR, hA] at hn0
 rw [hp, hq, hR, hA]
 have HN0 := Lib.hid hn0
 have HNM : Hid (A = w.heap.size + 1 ∧ R = w.heap.size + 1 + 1 ∧ q = w.heap.size + 1 + 1 + 1 ∧ p = w.heap.size + 1 + 1 + 1 + 1) := Lib.hid ⟨hA.symm, hR.symm, hq.symm, hp.symm⟩
 have n1 : p ≠ q := by omega
 have x1 := hn0.box.2
 clear hn0 hp hq hR hA hE
 go_wp2_with fail
 clear x1
 go_loopw [4, 28] (fun n' i' wr => ∃ k vF, k ≤ f.lots.length ∧ i' = .int .i64 (k : Nat) ∧ n' = .int .i64 (beforeI f k) ∧ NewL w.heap.size A R q p w wr #[.int .i64 f.senders, .slice a f.lots.length cap] (.slice a f.lots.length cap) vF (firstF f k) E 0 (fun _ => 0)) (fun _ i' _ => f.lots.length - (intOf i').toNat)
 case atStart => exact ⟨0, _, by omega, rfl, rfl, HN0.out⟩
 case round =>
  obtain ⟨k, vF, hk, rfl, rfl, hn⟩ := hrel
  have HN := Lib.hid hn
  have hp1 := hn.ptr.cell
  have hx1 := hn.box.2
  obtain ⟨av, nv, cv, rfl⟩ := hn.own.form'
  clear hn
  by_cases hlt : k < f.lots.length
  ·obtain rfl : a = some ⟨b, off, none⟩ := by rcases HA.out with h | h; exact h; omega
   obtain ⟨vi, vk, vp, q1, q2, q3, hli, rfl, hlp⟩ := HC.out k hlt
   obtain ⟨ai, ci, rfl⟩ := hli.form
   obtain ⟨ap, cp, rfl⟩ := hlp.form
   have hbk : Below B w wr := HN.out.hb.mono hB
   have c1 := (q1.below hbk (Nat.le_refl _)).2
   have c2 := (q2.below hbk (Nat.le_refl _)).2
   have c3 := (q3.below hbk (Nat.le_refl _)).2
   obtain ⟨g1, g2, g3⟩ := HI.out k hlt
   have g4 := before_bd H0.out (k := k + 1) (by omega)
   have HBS : Hid (beforeI f (k + 1) = beforeI f k + (lotAt f.lots k).ins.length) := Lib.hid rfl
   have HFS : Hid (firstF f (k + 1) = firstF f k ++ [beforeI f k]) := Lib.hid rfl
   rw [HBS.out] at g4
   obtain ⟨N, hN⟩ : ∃ x, beforeI f k = x := ⟨_, rfl⟩
   obtain ⟨m, hm⟩ : ∃ x, (lotAt f.lots k).ins.length = x := ⟨_, rfl⟩
   rw [hm] at c1 HBS g1 g4
   rw [hN] at HBS HFS g2 g3 g4 ⊢
   obtain ⟨g5, g6⟩ := g4
   obtain ⟨kn, hkn⟩ : ∃ x, (lotAt f.lots k).known = x := ⟨_, rfl⟩
   rw [hkn] at c2
   clear hN hm hkn q1 q2 q3 hli hlp hbk
   go_upto_region 6 with fail
   refine wp_name (fun W5 hW5 => ?_)
   have HN5 : Hid (NewL w.heap.size A R q p w W5 #[.int .i64 f.senders, .slice (some ⟨b, off, none⟩) f.lots.length cap] (.slice (some ⟨b, off, none⟩) f.lots.length cap) (.slice av nv cv) (firstF f k) E 0 (fun _ => 0)) := Lib.hid (by rw [hW5]; exact HN.out.ext (box_below' wr _))
   have HX5 : Hid (Box W5 wr.heap.size #[.slice ai m ci, .bool kn, .slice ap (lotAt f.lots k).perm.length cp]) := Lib.hid (by rw [hW5]; exact Box.new wr _ _)
   have HZ5 : Hid (∀ k', (Value.slice av nv cv).ownBlock = some k' → k' < wr.heap.size) := Lib.hid (fun k' e => (HN.out.own.ltX k' e).2)
   have HSZ := Lib.hid HN.out.size
   clear hW5 c1 c2 c3 hp1 hx1 HN
   obtain ⟨V, hV⟩ : ∃ V : List (Option Value), V = [some (.pointer (some ⟨q, 0, none⟩)), some (.pointer (some ⟨q, 0, none⟩)), some (.pointer (some ⟨q, 0, none⟩)), some (.pointer (some ⟨q, 1, none⟩)), some (.slice av nv cv), some (.int .i64 N), none, none, some (.pointer (some ⟨q, 0, none⟩)), some (.pointer (some ⟨q, 1, none⟩)), none] := ⟨_, rfl⟩
   have HVV := Lib.hid hV
   clear hV
   refine wp_region_V [some 32, some 33, some 34, some 35, some 36, some 37, some 38, some 39, some 40, some 41, none] (fun L w' xs => ValsAt V L xs ∧ (ApC (w.heap.size + 5) q 1 #[.slice (some ⟨b, off, none⟩) f.lots.length cap, .slice av nv cv, .map (some A), .map (some R)] W5 (.slice av nv cv) (firstF f k) N (L 6) (L 7) (L 10) (xs 6) (xs 7) w' ∧ (L 10 = true → L 4 = true))) (by kernel_rfl) (by kernel_rfl) (by rfl) (by rfl) (by rfl) ?_ ?_ ?_
   focus
    exact fun xs => ⟨ValsAt.none _ _, (by exact ApC.start (by have := HNM.out; omega) HN5.out.size HN5.out.own HN5.out.cs 1), (fun e => by cases e)⟩
   focus
    refine ⟨?_, ?_, ?_, ?_, ?_, ?_, ?_, ?_, ?_, ?_, ?_, trivial⟩
    all_goals
     intro L a' w' xs hi hd hf hJ K hK
     obtain ⟨hv, hA, h9⟩ := hJ
     have HF := Lib.hid hf
     have HVA := Lib.hid hv
     have HLI := Lib.hid hi
     clear hf hv hi
    focus
     clear hd
     obtain ⟨ρ, hρ⟩ : ∃ ρ, a'.eval = ρ := ⟨_, rfl⟩
     have hcst : ∀ v, ρ (.const v) = v := fun v => (congrFun hρ (.const v)).symm
     have l3 : ρ (.tmp 3) = .pointer (some ⟨p, 0, none⟩) := (congrFun hρ (.tmp 3)).symm.trans (HF.out.lo 3 rfl)
     have m0 := (hA.cell (k := p) (i := 0) (by have := HNM.out; omega) n1).trans HN5.out.ptr.cell
     rw [if_pos (by simp [Region.wanted])]
     unfold Oper.wp
     rw [hρ]
     clear hρ
     go_simp
     exact hK.out _ _ ⟨HVA.out.set (i := 0) (by rw [HVV.out]; rfl), (by simp only [updV_ne (xs := xs) (show (6 : Nat) ≠ 0 by decide), updV_ne (xs := xs) (show (7 : Nat) ≠ 0 by decide)]; exact hA), (by exact h9)⟩
    focus
     clear hd
     obtain ⟨ρ, hρ⟩ : ∃ ρ, a'.eval = ρ := ⟨_, rfl⟩
     have hcst : ∀ v, ρ (.const v) = v := fun v => (congrFun hρ (.const v)).symm
     have l3 : ρ (.tmp 3) = .pointer (some ⟨p, 0, none⟩) := (congrFun hρ (.tmp 3)).symm.trans (HF.out.lo 3 rfl)
     have m0 := (hA.cell (k := p) (i := 0) (by have := HNM.out; omega) n1).trans HN5.out.ptr.cell
     rw [if_pos (by simp [Region.wanted])]
     unfold Oper.wp
     rw [hρ]
     clear hρ
     go_simp
     exact hK.out _ _ ⟨HVA.out.set (i := 1) (by rw [HVV.out]; rfl), (by simp only [updV_ne (xs := xs) (show (6 : Nat) ≠ 1 by decide), updV_ne (xs := xs) (show (7 : Nat) ≠ 1 by decide)]; exact hA), (by exact h9)⟩
    focus
     obtain ⟨d1, _⟩ := hd
     obtain ⟨ρ, hρ⟩ : ∃ ρ, a'.eval = ρ := ⟨_, rfl⟩
     have hcst : ∀ v, ρ (.const v) = v := fun v => (congrFun hρ (.const v)).symm
     have v1 : ρ (.tmp 33) = .pointer (some ⟨q, 0, none⟩) := (congrFun hρ (.tmp 33)).symm.trans ((HF.out.ev 1 rfl d1).trans (HVA.out 1 _ (by rw [HVV.out]; rfl) d1))
     rw [if_pos (by simp [Region.wanted])]
     unfold Oper.wp
     rw [hρ]
     clear hρ
     go_simp
     exact hK.out _ _ ⟨HVA.out.set (i := 2) (by rw [HVV.out]; rfl), (by simp only [updV_ne (xs := xs) (show (6 : Nat) ≠ 2 by decide), updV_ne (xs := xs) (show (7 : Nat) ≠ 2 by decide)]; exact hA), (by exact h9)⟩
    focus
     obtain ⟨d2, _⟩ := hd
     obtain ⟨ρ, hρ⟩ : ∃ ρ, a'.eval = ρ := ⟨_, rfl⟩
     have hcst : ∀ v, ρ (.const v) = v := fun v => (congrFun hρ (.const v)).symm
     have v2 : ρ (.tmp 34) = .pointer (some ⟨q, 0, none⟩) := (congrFun hρ (.tmp 34)).symm.trans ((HF.out.ev 2 rfl d2).trans (HVA.out 2 _ (by rw [HVV.out]; rfl) d2))
     rw [if_pos (by simp [Region.wanted])]
     unfold Oper.wp
     rw [hρ]
     clear hρ
     go_simp
     exact hK.out _ _ ⟨HVA.out.set (i := 3) (by rw [HVV.out]; rfl), (by simp only [updV_ne (xs := xs) (show (6 : Nat) ≠ 3 by decide), updV_ne (xs := xs) (show (7 : Nat) ≠ 3 by decide)]; exact hA), (by exact h9)⟩
    focus
     obtain ⟨d3, _⟩ := hd
     obtain ⟨ρ, hρ⟩ : ∃ ρ, a'.eval = ρ := ⟨_, rfl⟩
     have hcst : ∀ v, ρ (.const v) = v := fun v => (congrFun hρ (.const v)).symm
     have v3 : ρ (.tmp 35) = .pointer (some ⟨q, 1, none⟩) := (congrFun hρ (.tmp 35)).symm.trans ((HF.out.ev 3 rfl d3).trans (HVA.out 3 _ (by rw [HVV.out]; rfl) d3))
     have e10 : L 10 = false := by
      cases e : L 10 with
      | false => rfl
      | true => have := h9 e; rw [HLI.out] at this; cases this
     have m0 := (hA.hc e10).cell 1
     simp at m0
     rw [if_pos (by simp [Region.wanted])]
     unfold Oper.wp
     rw [hρ]
     clear hρ
     go_simp
     exact hK.out _ _ ⟨HVA.out.set (i := 4) (by rw [HVV.out]; rfl), (by simp only [updV_ne (xs := xs) (show (6 : Nat) ≠ 4 by decide), updV_ne (xs := xs) (show (7 : Nat) ≠ 4 by decide)]; exact hA), (fun _ => rfl)⟩
    focus
     clear hd
     obtain ⟨ρ, hρ⟩ : ∃ ρ, a'.eval = ρ := ⟨_, rfl⟩
     have hcst : ∀ v, ρ (.const v) = v := fun v => (congrFun hρ (.const v)).symm
     have l4 : ρ (.tmp 4) = .int .i64 N := (congrFun hρ (.tmp 4)).symm.trans (HF.out.lo 4 rfl)
     rw [if_pos (by simp [Region.wanted])]
     unfold Oper.wp
     rw [hρ]
     clear hρ
     go_simp
     exact hK.out _ _ ⟨HVA.out.set (i := 5) (by rw [HVV.out]; rfl), (by simp only [updV_ne (xs := xs) (show (6 : Nat) ≠ 5 by decide), updV_ne (xs := xs) (show (7 : Nat) ≠ 5 by decide)]; exact hA), (by exact h9)⟩
    focus
     obtain ⟨d5, _⟩ := hd
     obtain ⟨ρ, hρ⟩ : ∃ ρ, a'.eval = ρ := ⟨_, rfl⟩
     have hcst : ∀ v, ρ (.const v) = v := fun v => (congrFun hρ (.const v)).symm
     have v5 : ρ (.tmp 37) = .int .i64 N := (congrFun hρ (.tmp 37)).symm.trans ((HF.out.ev 5 rfl d5).trans (HVA.out 5 _ (by rw [HVV.out]; rfl) d5))
     rw [if_pos (by simp [Region.wanted])]
     unfold Oper.wp
     rw [hρ]
     clear hρ
     go_simp
     exact hK.out _ _ ⟨HVA.out.free (i := 6) (by rw [HVV.out]; rfl) _, (by simp only [updV_ne (xs := xs) (show (7 : Nat) ≠ 6 by decide), updV_self]; exact hA.sb HLI.out rfl), (by exact h9)⟩
    focus
     obtain ⟨d4, d6, _⟩ := hd
     have v4 : a'.eval (.tmp 36) = .slice av nv cv := (HF.out.ev 4 rfl d4).trans (HVA.out 4 _ (by rw [HVV.out]; rfl) d4)
     have v6 : a'.eval (.tmp 38) = xs 6 := HF.out.ev 6 rfl d6
     rw [if_pos (by simp [Region.wanted])]
     obtain ⟨q', e6, q1, q2⟩ := hA.hb d6 HLI.out
     rw [e6] at v6
     have hsrc : Src w' 1 (.slice (some ⟨q', 0, none⟩) 1 1) [N].length ([N].map (Value.int .i64)) := src_one (q2.cell 0) rfl
     obtain ⟨v', w5, y1, y2, y3, y4⟩ := run_append_ints (ty := 25) (hA.h0 HLI.out) hsrc (by intro y hy; simp at hy; subst hy; unfold I64; omega) (by have := firstF_len f k; simp; omega) (Nat.le_trans hA.hC.2 hA.tu.size)
     refine wp_of_append w' rfl v4 v6 y1 ?_
     exact hK.out _ _ ⟨HVA.out.free (i := 7) (by rw [HVV.out]; rfl) _, (by simp only [updV_ne (xs := xs) (show (6 : Nat) ≠ 7 by decide), updV_self]; exact hA.sa HLI.out d6 y2 y3), (by exact h9)⟩
    focus
     obtain ⟨d0, _, d1, d2, d3, d4, d5, d6, d7, _⟩ := hd
     obtain ⟨ρ, hρ⟩ : ∃ ρ, a'.eval = ρ := ⟨_, rfl⟩
     have hcst : ∀ v, ρ (.const v) = v := fun v => (congrFun hρ (.const v)).symm
     have v0 : ρ (.tmp 32) = .pointer (some ⟨q, 0, none⟩) := (congrFun hρ (.tmp 32)).symm.trans ((HF.out.ev 0 rfl d0).trans (HVA.out 0 _ (by rw [HVV.out]; rfl) d0))
     rw [if_pos (by simp [Region.wanted])]
     unfold Oper.wp
     rw [hρ]
     clear hρ
     go_simp
     exact hK.out _ _ ⟨HVA.out.set (i := 8) (by rw [HVV.out]; rfl), (by simp only [updV_ne (xs := xs) (show (6 : Nat) ≠ 8 by decide), updV_ne (xs := xs) (show (7 : Nat) ≠ 8 by decide)]; exact hA), (by exact h9)⟩
    focus
     obtain ⟨d8, d0, d1, d2, d3, d4, d5, d6, d7, _⟩ := hd
     obtain ⟨ρ, hρ⟩ : ∃ ρ, a'.eval = ρ := ⟨_, rfl⟩
     have hcst : ∀ v, ρ (.const v) = v := fun v => (congrFun hρ (.const v)).symm
     have v8 : ρ (.tmp 40) = .pointer (some ⟨q, 0, none⟩) := (congrFun hρ (.tmp 40)).symm.trans ((HF.out.ev 8 rfl d8).trans (HVA.out 8 _ (by rw [HVV.out]; rfl) d8))
     rw [if_pos (by simp [Region.wanted])]
     unfold Oper.wp
     rw [hρ]
     clear hρ
     go_simp
     exact hK.out _ _ ⟨HVA.out.set (i := 9) (by rw [HVV.out]; rfl), (by simp only [updV_ne (xs := xs) (show (6 : Nat) ≠ 9 by decide), updV_ne (xs := xs) (show (7 : Nat) ≠ 9 by decide)]; exact hA), (by exact h9)⟩
    focus
     obtain ⟨d9, d7, _, d0, d1, d2, d3, d4, d5, d6, _, _⟩ := hd
     obtain ⟨ρ, hρ⟩ : ∃ ρ, a'.eval = ρ := ⟨_, rfl⟩
     have hcst : ∀ v, ρ (.const v) = v := fun v => (congrFun hρ (.const v)).symm
     have v9 : ρ (.tmp 41) = .pointer (some ⟨q, 1, none⟩) := (congrFun hρ (.tmp 41)).symm.trans ((HF.out.ev 9 rfl d9).trans (HVA.out 9 _ (by rw [HVV.out]; rfl) d9))
     have v7 : ρ (.tmp 39) = xs 7 := (congrFun hρ (.tmp 39)).symm.trans (HF.out.ev 7 rfl d7)
     rw [if_pos (by simp [Region.wanted])]
     unfold Oper.wp
     rw [hρ]
     clear hρ
     obtain ⟨a8, n8, c8, e8⟩ := (hA.ha d7).form'
     have HE8 := Lib.hid e8
     rw [e8] at v7
     have hSS := Lib.hid (hA.ss HLI.out d7)
     rw [e8] at hSS
     have fz := (hA.hc HLI.out).free 1
     have m0 := (hA.hc HLI.out).cell 1
     simp at m0
     clear e8
     go_simp
     exact hK.out undef _ ⟨HVA.out.free (i := 10) (by rw [HVV.out]; rfl) _, (by simp only [updV_ne (xs := xs) (show (6 : Nat) ≠ 10 by decide), updV_ne (xs := xs) (show (7 : Nat) ≠ 10 by decide)]; rw [HE8.out]; exact hSS.out), (fun _ => d4)⟩
   focus
    intro L w' xs hL hJ
    obtain ⟨hv, hA, h9⟩ := hJ
    have e0 : xs 0 = .pointer (some ⟨q, 0, none⟩) := hv 0 _ (by rw [HVV.out]; rfl) (hL 0 (by decide))
    have e1 : xs 1 = .pointer (some ⟨q, 0, none⟩) := hv 1 _ (by rw [HVV.out]; rfl) (hL 1 (by decide))
    have e2 : xs 2 = .pointer (some ⟨q, 0, none⟩) := hv 2 _ (by rw [HVV.out]; rfl) (hL 2 (by decide))
    have e3 : xs 3 = .pointer (some ⟨q, 1, none⟩) := hv 3 _ (by rw [HVV.out]; rfl) (hL 3 (by decide))
    have e4 : xs 4 = .slice av nv cv := hv 4 _ (by rw [HVV.out]; rfl) (hL 4 (by decide))
    have e5 : xs 5 = .int .i64 N := hv 5 _ (by rw [HVV.out]; rfl) (hL 5 (by decide))
    have e8 : xs 8 = .pointer (some ⟨q, 0, none⟩) := hv 8 _ (by rw [HVV.out]; rfl) (hL 8 (by decide))
    have e9 : xs 9 = .pointer (some ⟨q, 1, none⟩) := hv 9 _ (by rw [HVV.out]; rfl) (hL 9 (by decide))
    simp only [putGo, Act.put, List.setIfInBounds_toArray, List.set_cons_zero, List.set_cons_succ, e0, e1, e2, e3, e4, e5, e8, e9]
    clear hv e0 e1 e2 e3 e4 e5 e8 e9
   have hX10 := hL 10 (by decide)
   have hX7 := hL 7 (by decide)
   have HAP := Lib.hid hA
   clear h9 hA hL
   have HN6 := Lib.hid (HN5.out.app HAP.out hX10)
   have hlb := (HAP.out.tu.cell (p := ⟨wr.heap.size, 0, none⟩) HX5.out.1 (by have := HSZ.out; have := HNM.out; rintro (e | e); (have e2 : wr.heap.size = q := e); omega; exact absurd (HZ5.out _ e) (Nat.lt_irrefl _))).trans (HX5.out.2 0)
   go_wp2
   go_roundw
   case rel => exact ⟨k + 1, _, by omega, by go_num, by rw [HBS.out], by rw [HFS.out]; exact HN6.out⟩
   case measure => simp [intOf]; omega
  ·obtain rfl : k = f.lots.length := by omega
   go_wp2_with fail
   have HCE := Lib.hid (fEnds_any B wr _ _ f (HF.out.below HN.out.hb hB) (by have := HN.out.size; omega))
   refine HCE.out.mono ?_
   rintro e W7 ⟨ve, rfl, ho7, hb7⟩
   have HO7 := Lib.hid ho7
   have HN7 := Lib.hid (HN.out.ext hb7)
   have HSZ7 := Lib.hid hb7.size
   have HER : Hid (endsR f = E) := Lib.hid (by rw [← HEE.out]; unfold endsR; rw [if_pos H0.out])
   rw [HER.out] at HO7
   obtain ⟨ae, ce, rfl, hob⟩ := HO7.out.form
   have HNO : Hid (E.Nodup) := Lib.hid (by rw [← HEE.out]; exact ends_nodup f _)
   have hE64 : E.length ≤ 64 := by have := ends_64 H0.out; rw [HEE.out] at this; exact this
   obtain ⟨be, oe, cee, ⟨ae', hae, hce1, hce2, hae'⟩, hel, hez, hec⟩ := HO7.out.isInts
   obtain ⟨rfl, rfl⟩ : ae = ae' ∧ ce = cee := by simpa using hae
   have HEC := Lib.hid hec
   have HAE := Lib.hid hae'
   have HEZ := Lib.hid hez
   have HOB : Hid (∀ k, (Value.slice ae E.length ce).ownBlock = some k → w.heap.size + 5 ≤ k) := Lib.hid (fun k e => by have := (hob k e).1; have := HN.out.size; omega)
   clear ho7 hb7 hp1 hx1 HCE HER hob hae hae' hec hez
   go_upto_region 11 with fail
   go_loopw [55] (fun i' wr => ∃ i : Nat, i ≤ E.length ∧ i' = .int .i64 (i : Nat) ∧ Turned (fun k => k = A ∨ k = R) W7 wr ∧ EndMap wr A E i ∧ MaskMap wr R (bitTo E i)) (fun i' _ => E.length - (intOf i').toNat)
   case atStart => exact ⟨0, by omega, rfl, Turned.refl _ _, HN7.out.em, by rw [bitTo_zero]; exact HN7.out.mm⟩
   case round =>
    obtain ⟨i, hi, rfl, ht, hem, hmm⟩ := hrel
    have HT := Lib.hid ht
    have HEM := Lib.hid hem
    have HMM := Lib.hid hmm
    have HN8 := Lib.hid (HN7.out.maps ht hem hmm)
    clear ht hem hmm
    by_cases hil : i < E.length
    ·obtain rfl : ae = some ⟨be, oe, none⟩ := by rcases HAE.out with h | h; exact h; omega
     have hbe : w.heap.size + 5 ≤ be := HOB.out be rfl
     have c1 := (HT.out.cell (p := ⟨be, oe + i, none⟩) (HEC.out i hil).1 (by have := HNM.out; rintro (e | e); (have e2 : be = A := e); omega; (have e2 : be = R := e); omega)).trans (HEC.out i hil).2
     have HE1 := Lib.hid (nth_64 HEZ.out i)
     have HBS := Lib.hid (bitTo_step HNO.out hil)
     have HES := Lib.hid (fun W' lA h => EndMap.step (w' := W') (A := A) (l := lA) HNO.out hil h)
     obtain ⟨e, he⟩ : ∃ x, nth E i = x := ⟨_, rfl⟩
     rw [he] at c1 HE1 HBS HES
     clear he
     go_upto_region 13 with fail
     obtain ⟨lA, hlA, hlA2⟩ := HEM.out
     obtain ⟨lR, hlR, hlR2⟩ := HMM.out
     have HLA2 := Lib.hid hlA2
     have HLR2 := Lib.hid hlR2
     have HLA := Lib.hid hlA
     have HLR := Lib.hid hlR
     have HKR : Hid (q < wr.heap.size ∧ p < wr.heap.size) := Lib.hid (by have := HN8.out.size; have := HNM.out; omega)
     have n2 : A ≠ R ∧ p ≠ A ∧ p ≠ R ∧ q ≠ A ∧ q ≠ R := by have := HNM.out; omega
     clear hlA hlR hlA2 hlR2 c1
     obtain ⟨V, hV⟩ : ∃ V : List (Option Value), V = [some (.pointer (some ⟨q, 0, none⟩)), some (.pointer (some ⟨q, 0, none⟩)), some (.pointer (some ⟨q, 2, none⟩)), some (.map (some A)), some (.int .i64 e), some (.pointer (some ⟨q, 0, none⟩)), some (.pointer (some ⟨q, 0, none⟩)), some (.pointer (some ⟨q, 3, none⟩)), some (.map (some R)), some (.int .i64 e), some (.int .i64 (i : Nat)), some (.int .i64 (i : Nat)), some (.int .u64 (pwI i)), none, none, none, none, none, none] := ⟨_, rfl⟩
     have HVV := Lib.hid hV
     clear hV
     refine wp_region_V [some 60, some 61, some 62, some 63, some 64, some 65, some 66, some 67, some 68, some 69, some 70, some 71, some 72, some 73, some 74, none, some 75, some 76, none] (fun L w' xs => ValsAt V L xs ∧ (EntR Try.prog 62 65 A R lA lR e (.int .i64 (i : Nat)) (.int .u64 (pwI i)) wr (L 13) (L 14) (L 15) (L 16) (L 17) (L 18) (xs 13) (xs 14) (xs 16) (xs 17) w' ∧ ((L 14 = true → L 13 = true) ∧ (L 15 = true → L 14 = true) ∧ (L 17 = true → L 16 = true) ∧ (L 18 = true → L 17 = true)))) (by kernel_rfl) (by kernel_rfl) (by rfl) (by rfl) (by rfl) ?_ ?_ ?_
     focus
      exact fun xs => ⟨ValsAt.none _ _, (by exact EntR.start n2.1 HLA.out HLR.out 1), ⟨(fun e => by cases e), (fun e => by cases e), (fun e => by cases e), (fun e => by cases e)⟩⟩
     focus
      refine ⟨?_, ?_, ?_, ?_, ?_, ?_, ?_, ?_, ?_, ?_, ?_, ?_, ?_, ?_, ?_, ?_, ?_, ?_, ?_, trivial⟩
      all_goals
       intro L a' w' xs hi hd hf hJ K hK
       obtain ⟨hv, hA, h9⟩ := hJ
       have HF := Lib.hid hf
       have HVA := Lib.hid hv
       have HLI := Lib.hid hi
       clear hf hv hi
      focus
       clear hd
       obtain ⟨ρ, hρ⟩ : ∃ ρ, a'.eval = ρ := ⟨_, rfl⟩
       have hcst : ∀ v, ρ (.const v) = v := fun v => (congrFun hρ (.const v)).symm
       have l3 : ρ (.tmp 3) = .pointer (some ⟨p, 0, none⟩) := (congrFun hρ (.tmp 3)).symm.trans (HF.out.lo 3 rfl)
       have m0 := (hA.cell (k := p) (i := 0) HKR.out.2 n2.2.1 n2.2.2.1).trans HN8.out.ptr.cell
       rw [if_pos (by simp [Region.wanted])]
       unfold Oper.wp
       rw [hρ]
       clear hρ
       go_simp
       exact hK.out _ _ ⟨HVA.out.set (i := 0) (by rw [HVV.out]; rfl), (by simp only [updV_ne (xs := xs) (show (13 : Nat) ≠ 0 by decide), updV_ne (xs := xs) (show (14 : Nat) ≠ 0 by decide), updV_ne (xs := xs) (show (16 : Nat) ≠ 0 by decide), updV_ne (xs := xs) (show (17 : Nat) ≠ 0 by decide)]; exact hA), (by exact h9)⟩
      focus
       obtain ⟨d0, _⟩ := hd
       obtain ⟨ρ, hρ⟩ : ∃ ρ, a'.eval = ρ := ⟨_, rfl⟩
       have hcst : ∀ v, ρ (.const v) = v := fun v => (congrFun hρ (.const v)).symm
       have v0 : ρ (.tmp 60) = .pointer (some ⟨q, 0, none⟩) := (congrFun hρ (.tmp 60)).symm.trans ((HF.out.ev 0 rfl d0).trans (HVA.out 0 _ (by rw [HVV.out]; rfl) d0))
       rw [if_pos (by simp [Region.wanted])]
       unfold Oper.wp
       rw [hρ]
       clear hρ
       go_simp
       exact hK.out _ _ ⟨HVA.out.set (i := 1) (by rw [HVV.out]; rfl), (by simp only [updV_ne (xs := xs) (show (13 : Nat) ≠ 1 by decide), updV_ne (xs := xs) (show (14 : Nat) ≠ 1 by decide), updV_ne (xs := xs) (show (16 : Nat) ≠ 1 by decide), updV_ne (xs := xs) (show (17 : Nat) ≠ 1 by decide)]; exact hA), (by exact h9)⟩
      focus
       obtain ⟨d1, _⟩ := hd
       obtain ⟨ρ, hρ⟩ : ∃ ρ, a'.eval = ρ := ⟨_, rfl⟩
       have hcst : ∀ v, ρ (.const v) = v := fun v => (congrFun hρ (.const v)).symm
       have v1 : ρ (.tmp 61) = .pointer (some ⟨q, 0, none⟩) := (congrFun hρ (.tmp 61)).symm.trans ((HF.out.ev 1 rfl d1).trans (HVA.out 1 _ (by rw [HVV.out]; rfl) d1))
       rw [if_pos (by simp [Region.wanted])]
       unfold Oper.wp
       rw [hρ]
       clear hρ
       go_simp
       exact hK.out _ _ ⟨HVA.out.set (i := 2) (by rw [HVV.out]; rfl), (by simp only [updV_ne (xs := xs) (show (13 : Nat) ≠ 2 by decide), updV_ne (xs := xs) (show (14 : Nat) ≠ 2 by decide), updV_ne (xs := xs) (show (16 : Nat) ≠ 2 by decide), updV_ne (xs := xs) (show (17 : Nat) ≠ 2 by decide)]; exact hA), (by exact h9)⟩
      focus
       obtain ⟨d2, _⟩ := hd
       obtain ⟨ρ, hρ⟩ : ∃ ρ, a'.eval = ρ := ⟨_, rfl⟩
       have hcst : ∀ v, ρ (.const v) = v := fun v => (congrFun hρ (.const v)).symm
       have v2 : ρ (.tmp 62) = .pointer (some ⟨q, 2, none⟩) := (congrFun hρ (.tmp 62)).symm.trans ((HF.out.ev 2 rfl d2).trans (HVA.out 2 _ (by rw [HVV.out]; rfl) d2))
       have m0 := (hA.cell (k := q) (i := 2) HKR.out.1 n2.2.2.2.1 n2.2.2.2.2).trans (HN8.out.cs.cell 2)
       simp at m0
       rw [if_pos (by simp [Region.wanted])]
       unfold Oper.wp
       rw [hρ]
       clear hρ
       go_simp
       exact hK.out _ _ ⟨HVA.out.set (i := 3) (by rw [HVV.out]; rfl), (by simp only [updV_ne (xs := xs) (show (13 : Nat) ≠ 3 by decide), updV_ne (xs := xs) (show (14 : Nat) ≠ 3 by decide), updV_ne (xs := xs) (show (16 : Nat) ≠ 3 by decide), updV_ne (xs := xs) (show (17 : Nat) ≠ 3 by decide)]; exact hA), (by exact h9)⟩
      focus
       clear hd
       obtain ⟨ρ, hρ⟩ : ∃ ρ, a'.eval = ρ := ⟨_, rfl⟩
       have hcst : ∀ v, ρ (.const v) = v := fun v => (congrFun hρ (.const v)).symm
       have l10 : ρ (.tmp 10) = .int .i64 e := (congrFun hρ (.tmp 10)).symm.trans (HF.out.lo 10 rfl)
       rw [if_pos (by simp [Region.wanted])]
       unfold Oper.wp
       rw [hρ]
       clear hρ
       go_simp
       exact hK.out _ _ ⟨HVA.out.set (i := 4) (by rw [HVV.out]; rfl), (by simp only [updV_ne (xs := xs) (show (13 : Nat) ≠ 4 by decide), updV_ne (xs := xs) (show (14 : Nat) ≠ 4 by decide), updV_ne (xs := xs) (show (16 : Nat) ≠ 4 by decide), updV_ne (xs := xs) (show (17 : Nat) ≠ 4 by decide)]; exact hA), (by exact h9)⟩
      focus
       clear hd
       obtain ⟨ρ, hρ⟩ : ∃ ρ, a'.eval = ρ := ⟨_, rfl⟩
       have hcst : ∀ v, ρ (.const v) = v := fun v => (congrFun hρ (.const v)).symm
       have l3 : ρ (.tmp 3) = .pointer (some ⟨p, 0, none⟩) := (congrFun hρ (.tmp 3)).symm.trans (HF.out.lo 3 rfl)
       have m0 := (hA.cell (k := p) (i := 0) HKR.out.2 n2.2.1 n2.2.2.1).trans HN8.out.ptr.cell
       rw [if_pos (by simp [Region.wanted])]
       unfold Oper.wp
       rw [hρ]
       clear hρ
       go_simp
       exact hK.out _ _ ⟨HVA.out.set (i := 5) (by rw [HVV.out]; rfl), (by simp only [updV_ne (xs := xs) (show (13 : Nat) ≠ 5 by decide), updV_ne (xs := xs) (show (14 : Nat) ≠ 5 by decide), updV_ne (xs := xs) (show (16 : Nat) ≠ 5 by decide), updV_ne (xs := xs) (show (17 : Nat) ≠ 5 by decide)]; exact hA), (by exact h9)⟩
      focus
       obtain ⟨d5, _⟩ := hd
       obtain ⟨ρ, hρ⟩ : ∃ ρ, a'.eval = ρ := ⟨_, rfl⟩
       have hcst : ∀ v, ρ (.const v) = v := fun v => (congrFun hρ (.const v)).symm
       have v5 : ρ (.tmp 65) = .pointer (some ⟨q, 0, none⟩) := (congrFun hρ (.tmp 65)).symm.trans ((HF.out.ev 5 rfl d5).trans (HVA.out 5 _ (by rw [HVV.out]; rfl) d5))
       rw [if_pos (by simp [Region.wanted])]
       unfold Oper.wp
       rw [hρ]
       clear hρ
       go_simp
       exact hK.out _ _ ⟨HVA.out.set (i := 6) (by rw [HVV.out]; rfl), (by simp only [updV_ne (xs := xs) (show (13 : Nat) ≠ 6 by decide), updV_ne (xs := xs) (show (14 : Nat) ≠ 6 by decide), updV_ne (xs := xs) (show (16 : Nat) ≠ 6 by decide), updV_ne (xs := xs) (show (17 : Nat) ≠ 6 by decide)]; exact hA), (by exact h9)⟩
      focus
       obtain ⟨d6, _⟩ := hd
       obtain ⟨ρ, hρ⟩ : ∃ ρ, a'.eval = ρ := ⟨_, rfl⟩
       have hcst : ∀ v, ρ (.const v) = v := fun v => (congrFun hρ (.const v)).symm
       have v6 : ρ (.tmp 66) = .pointer (some ⟨q, 0, none⟩) := (congrFun hρ (.tmp 66)).symm.trans ((HF.out.ev 6 rfl d6).trans (HVA.out 6 _ (by rw [HVV.out]; rfl) d6))
       rw [if_pos (by simp [Region.wanted])]
       unfold Oper.wp
       rw [hρ]
       clear hρ
       go_simp
       exact hK.out _ _ ⟨HVA.out.set (i := 7) (by rw [HVV.out]; rfl), (by simp only [updV_ne (xs := xs) (show (13 : Nat) ≠ 7 by decide), updV_ne (xs := xs) (show (14 : Nat) ≠ 7 by decide), updV_ne (xs := xs) (show (16 : Nat) ≠ 7 by decide), updV_ne (xs := xs) (show (17 : Nat) ≠ 7 by decide)]; exact hA), (by exact h9)⟩
      focus
       obtain ⟨d7, _⟩ := hd
       obtain ⟨ρ, hρ⟩ : ∃ ρ, a'.eval = ρ := ⟨_, rfl⟩
       have hcst : ∀ v, ρ (.const v) = v := fun v => (congrFun hρ (.const v)).symm
       have v7 : ρ (.tmp 67) = .pointer (some ⟨q, 3, none⟩) := (congrFun hρ (.tmp 67)).symm.trans ((HF.out.ev 7 rfl d7).trans (HVA.out 7 _ (by rw [HVV.out]; rfl) d7))
       have m0 := (hA.cell (k := q) (i := 3) HKR.out.1 n2.2.2.2.1 n2.2.2.2.2).trans (HN8.out.cs.cell 3)
       simp at m0
       rw [if_pos (by simp [Region.wanted])]
       unfold Oper.wp
       rw [hρ]
       clear hρ
       go_simp
       exact hK.out _ _ ⟨HVA.out.set (i := 8) (by rw [HVV.out]; rfl), (by simp only [updV_ne (xs := xs) (show (13 : Nat) ≠ 8 by decide), updV_ne (xs := xs) (show (14 : Nat) ≠ 8 by decide), updV_ne (xs := xs) (show (16 : Nat) ≠ 8 by decide), updV_ne (xs := xs) (show (17 : Nat) ≠ 8 by decide)]; exact hA), (by exact h9)⟩
      focus
       clear hd
       obtain ⟨ρ, hρ⟩ : ∃ ρ, a'.eval = ρ := ⟨_, rfl⟩
       have hcst : ∀ v, ρ (.const v) = v := fun v => (congrFun hρ (.const v)).symm
       have l10 : ρ (.tmp 10) = .int .i64 e := (congrFun hρ (.tmp 10)).symm.trans (HF.out.lo 10 rfl)
       rw [if_pos (by simp [Region.wanted])]
       unfold Oper.wp
       rw [hρ]
       clear hρ
       go_simp
       exact hK.out _ _ ⟨HVA.out.set (i := 9) (by rw [HVV.out]; rfl), (by simp only [updV_ne (xs := xs) (show (13 : Nat) ≠ 9 by decide), updV_ne (xs := xs) (show (14 : Nat) ≠ 9 by decide), updV_ne (xs := xs) (show (16 : Nat) ≠ 9 by decide), updV_ne (xs := xs) (show (17 : Nat) ≠ 9 by decide)]; exact hA), (by exact h9)⟩
      focus
       clear hd
       obtain ⟨ρ, hρ⟩ : ∃ ρ, a'.eval = ρ := ⟨_, rfl⟩
       have hcst : ∀ v, ρ (.const v) = v := fun v => (congrFun hρ (.const v)).symm
       have l9 : ρ (.tmp 9) = .int .i64 (i : Nat) := (congrFun hρ (.tmp 9)).symm.trans (HF.out.lo 9 rfl)
       rw [if_pos (by simp [Region.wanted])]
       unfold Oper.wp
       rw [hρ]
       clear hρ
       go_simp
       exact hK.out _ _ ⟨HVA.out.set (i := 10) (by rw [HVV.out]; rfl), (by simp only [updV_ne (xs := xs) (show (13 : Nat) ≠ 10 by decide), updV_ne (xs := xs) (show (14 : Nat) ≠ 10 by decide), updV_ne (xs := xs) (show (16 : Nat) ≠ 10 by decide), updV_ne (xs := xs) (show (17 : Nat) ≠ 10 by decide)]; exact hA), (by exact h9)⟩
      focus
       clear hd
       obtain ⟨ρ, hρ⟩ : ∃ ρ, a'.eval = ρ := ⟨_, rfl⟩
       have hcst : ∀ v, ρ (.const v) = v := fun v => (congrFun hρ (.const v)).symm
       have l9 : ρ (.tmp 9) = .int .i64 (i : Nat) := (congrFun hρ (.tmp 9)).symm.trans (HF.out.lo 9 rfl)
       rw [if_pos (by simp [Region.wanted])]
       unfold Oper.wp
       rw [hρ]
       clear hρ
       go_simp
       exact hK.out _ _ ⟨HVA.out.set (i := 11) (by rw [HVV.out]; rfl), (by simp only [updV_ne (xs := xs) (show (13 : Nat) ≠ 11 by decide), updV_ne (xs := xs) (show (14 : Nat) ≠ 11 by decide), updV_ne (xs := xs) (show (16 : Nat) ≠ 11 by decide), updV_ne (xs := xs) (show (17 : Nat) ≠ 11 by decide)]; exact hA), (by exact h9)⟩
      focus
       obtain ⟨d11, _⟩ := hd
       obtain ⟨ρ, hρ⟩ : ∃ ρ, a'.eval = ρ := ⟨_, rfl⟩
       have hcst : ∀ v, ρ (.const v) = v := fun v => (congrFun hρ (.const v)).symm
       have v11 : ρ (.tmp 71) = .int .i64 (i : Nat) := (congrFun hρ (.tmp 71)).symm.trans ((HF.out.ev 11 rfl d11).trans (HVA.out 11 _ (by rw [HVV.out]; rfl) d11))
       rw [if_pos (by simp [Region.wanted])]
       unfold Oper.wp
       rw [hρ]
       clear hρ
       have hsh := Lib.hid (shl_mask i (by omega))
       go_simp
       rw [hsh.out]
       exact hK.out _ _ ⟨HVA.out.set (i := 12) (by rw [HVV.out]; rfl), (by simp only [updV_ne (xs := xs) (show (13 : Nat) ≠ 12 by decide), updV_ne (xs := xs) (show (14 : Nat) ≠ 12 by decide), updV_ne (xs := xs) (show (16 : Nat) ≠ 12 by decide), updV_ne (xs := xs) (show (17 : Nat) ≠ 12 by decide)]; exact hA), (by exact h9)⟩
      focus
       obtain ⟨d3, d4, d8, _⟩ := hd
       have v3 : a'.eval (.tmp 63) = .map (some A) := (HF.out.ev 3 rfl d3).trans (HVA.out 3 _ (by rw [HVV.out]; rfl) d3)
       have v4 : a'.eval (.tmp 64) = .int .i64 e := (HF.out.ev 4 rfl d4).trans (HVA.out 4 _ (by rw [HVV.out]; rfl) d4)
       rw [if_pos (by simp [Region.wanted])]
       have e14 : L 14 = false := by
        cases e : L 14 with
        | false => rfl
        | true => have := h9.1 e; rw [HLI.out] at this; cases this
       obtain ⟨v0, st, w5, y1, y2, y3, y4⟩ := run_entry_ints (P := Try.prog) Try.underlying62 Try.underlying3 (Try.zeroValue3) (hA.a0 HLI.out) e
       refine wp_of_entry rfl v3 v4 y1 ?_
       exact hK.out _ _ ⟨HVA.out.free (i := 13) (by rw [HVV.out]; rfl) _, (by simp only [updV_ne (xs := xs) (show (14 : Nat) ≠ 13 by decide), updV_ne (xs := xs) (show (16 : Nat) ≠ 13 by decide), updV_ne (xs := xs) (show (17 : Nat) ≠ 13 by decide), updV_self]; exact hA.s13 HLI.out e14 y2 y4), (by exact ⟨fun _ => rfl, h9.2⟩)⟩
      focus
       obtain ⟨d13, _⟩ := hd
       obtain ⟨ρ, hρ⟩ : ∃ ρ, a'.eval = ρ := ⟨_, rfl⟩
       have hcst : ∀ v, ρ (.const v) = v := fun v => (congrFun hρ (.const v)).symm
       have v13 : ρ (.tmp 73) = xs 13 := (congrFun hρ (.tmp 73)).symm.trans (HF.out.ev 13 rfl d13)
       rw [if_pos (by simp [Region.wanted])]
       unfold Oper.wp
       rw [hρ]
       clear hρ
       obtain ⟨v0, st, hx, hAA⟩ := hA.s14 d13 (by
        cases e : L 15 with
        | false => rfl
        | true => have := h9.2.1 e; rw [HLI.out] at this; cases this)
       rw [hx] at v13
       have HAA := Lib.hid hAA
       clear hAA
       go_simp
       exact hK.out _ _ ⟨HVA.out.free (i := 14) (by rw [HVV.out]; rfl) _, (by simp only [updV_ne (xs := xs) (show (13 : Nat) ≠ 14 by decide), updV_ne (xs := xs) (show (16 : Nat) ≠ 14 by decide), updV_ne (xs := xs) (show (17 : Nat) ≠ 14 by decide), updV_self]; exact HAA.out), (by exact ⟨fun _ => d13, fun _ => rfl, h9.2.2⟩)⟩
      focus
       obtain ⟨d3, d14, d10, d13, d0, d1, d2, _, d4, d8, _, _, _⟩ := hd
       have v3 : a'.eval (.tmp 63) = .map (some A) := (HF.out.ev 3 rfl d3).trans (HVA.out 3 _ (by rw [HVV.out]; rfl) d3)
       have v14 : a'.eval (.tmp 74) = xs 14 := HF.out.ev 14 rfl d14
       have v10 : a'.eval (.tmp 70) = .int .i64 (i : Nat) := (HF.out.ev 10 rfl d10).trans (HVA.out 10 _ (by rw [HVV.out]; rfl) d10)
       rw [if_pos (by simp [Region.wanted])]
       obtain ⟨w5, y1, hAA⟩ := hA.s15 (h9.1 d14) d14 HLI.out
       refine wp_of_entryStore rfl v3 v14 v10 y1 ?_
       exact hK.out undef _ ⟨HVA.out.free (i := 15) (by rw [HVV.out]; rfl) _, (by simp only [updV_ne (xs := xs) (show (13 : Nat) ≠ 15 by decide), updV_ne (xs := xs) (show (14 : Nat) ≠ 15 by decide), updV_ne (xs := xs) (show (16 : Nat) ≠ 15 by decide), updV_ne (xs := xs) (show (17 : Nat) ≠ 15 by decide)]; exact hAA), (by exact ⟨h9.1, fun _ => d14, h9.2.2⟩)⟩
      focus
       obtain ⟨d8, d9, d15, d0, d1, d2, d3, d4, _, d10, d13, d14, _, _⟩ := hd
       have v8 : a'.eval (.tmp 68) = .map (some R) := (HF.out.ev 8 rfl d8).trans (HVA.out 8 _ (by rw [HVV.out]; rfl) d8)
       have v9 : a'.eval (.tmp 69) = .int .i64 e := (HF.out.ev 9 rfl d9).trans (HVA.out 9 _ (by rw [HVV.out]; rfl) d9)
       rw [if_pos (by simp [Region.wanted])]
       have e17 : L 17 = false := by
        cases e : L 17 with
        | false => rfl
        | true => have := h9.2.2.1 e; rw [HLI.out] at this; cases this
       obtain ⟨v0, st, w5, y1, y2, y3, y4⟩ := run_entry_ints (P := Try.prog) Try.underlying65 Try.underlying3 (Try.zeroValue89) (hA.r0 HLI.out) e
       refine wp_of_entry rfl v8 v9 y1 ?_
       exact hK.out _ _ ⟨HVA.out.free (i := 16) (by rw [HVV.out]; rfl) _, (by simp only [updV_ne (xs := xs) (show (13 : Nat) ≠ 16 by decide), updV_ne (xs := xs) (show (14 : Nat) ≠ 16 by decide), updV_ne (xs := xs) (show (17 : Nat) ≠ 16 by decide), updV_self]; exact hA.s16 HLI.out e17 y2 y4), (by exact ⟨h9.1, h9.2.1, fun _ => rfl, h9.2.2.2⟩)⟩
      focus
       obtain ⟨d16, _⟩ := hd
       obtain ⟨ρ, hρ⟩ : ∃ ρ, a'.eval = ρ := ⟨_, rfl⟩
       have hcst : ∀ v, ρ (.const v) = v := fun v => (congrFun hρ (.const v)).symm
       have v16 : ρ (.tmp 75) = xs 16 := (congrFun hρ (.tmp 75)).symm.trans (HF.out.ev 16 rfl d16)
       rw [if_pos (by simp [Region.wanted])]
       unfold Oper.wp
       rw [hρ]
       clear hρ
       obtain ⟨v0, st, hx, hAA⟩ := hA.s17 d16 (by
        cases e : L 18 with
        | false => rfl
        | true => have := h9.2.2.2 e; rw [HLI.out] at this; cases this)
       rw [hx] at v16
       have HAA := Lib.hid hAA
       clear hAA
       go_simp
       exact hK.out _ _ ⟨HVA.out.free (i := 17) (by rw [HVV.out]; rfl) _, (by simp only [updV_ne (xs := xs) (show (13 : Nat) ≠ 17 by decide), updV_ne (xs := xs) (show (14 : Nat) ≠ 17 by decide), updV_ne (xs := xs) (show (16 : Nat) ≠ 17 by decide), updV_self]; exact HAA.out), (by exact ⟨h9.1, h9.2.1, fun _ => d16, fun _ => rfl⟩)⟩
      focus
       obtain ⟨d8, d17, d12, d16, d0, d1, d2, d3, d4, d5, d6, d7, _, d9, d10, d11, _, d13, d14, d15, _, _⟩ := hd
       have v8 : a'.eval (.tmp 68) = .map (some R) := (HF.out.ev 8 rfl d8).trans (HVA.out 8 _ (by rw [HVV.out]; rfl) d8)
       have v17 : a'.eval (.tmp 76) = xs 17 := HF.out.ev 17 rfl d17
       have v12 : a'.eval (.tmp 72) = .int .u64 (pwI i) := (HF.out.ev 12 rfl d12).trans (HVA.out 12 _ (by rw [HVV.out]; rfl) d12)
       rw [if_pos (by simp [Region.wanted])]
       obtain ⟨w5, y1, hAA⟩ := hA.s18 (h9.2.2.1 d17) d17 HLI.out
       refine wp_of_entryStore rfl v8 v17 v12 y1 ?_
       exact hK.out undef _ ⟨HVA.out.free (i := 18) (by rw [HVV.out]; rfl) _, (by simp only [updV_ne (xs := xs) (show (13 : Nat) ≠ 18 by decide), updV_ne (xs := xs) (show (14 : Nat) ≠ 18 by decide), updV_ne (xs := xs) (show (16 : Nat) ≠ 18 by decide), updV_ne (xs := xs) (show (17 : Nat) ≠ 18 by decide)]; exact hAA), (by exact ⟨h9.1, h9.2.1, h9.2.2.1, fun _ => d17⟩)⟩
     focus
      intro L w' xs hL hJ
      obtain ⟨hv, hA, h9⟩ := hJ
      have e0 : xs 0 = .pointer (some ⟨q, 0, none⟩) := hv 0 _ (by rw [HVV.out]; rfl) (hL 0 (by decide))
      have e1 : xs 1 = .pointer (some ⟨q, 0, none⟩) := hv 1 _ (by rw [HVV.out]; rfl) (hL 1 (by decide))
      have e2 : xs 2 = .pointer (some ⟨q, 2, none⟩) := hv 2 _ (by rw [HVV.out]; rfl) (hL 2 (by decide))
      have e3 : xs 3 = .map (some A) := hv 3 _ (by rw [HVV.out]; rfl) (hL 3 (by decide))
      have e4 : xs 4 = .int .i64 e := hv 4 _ (by rw [HVV.out]; rfl) (hL 4 (by decide))
      have e5 : xs 5 = .pointer (some ⟨q, 0, none⟩) := hv 5 _ (by rw [HVV.out]; rfl) (hL 5 (by decide))
      have e6 : xs 6 = .pointer (some ⟨q, 0, none⟩) := hv 6 _ (by rw [HVV.out]; rfl) (hL 6 (by decide))
      have e7 : xs 7 = .pointer (some ⟨q, 3, none⟩) := hv 7 _ (by rw [HVV.out]; rfl) (hL 7 (by decide))
      have e8 : xs 8 = .map (some R) := hv 8 _ (by rw [HVV.out]; rfl) (hL 8 (by decide))
      have e9 : xs 9 = .int .i64 e := hv 9 _ (by rw [HVV.out]; rfl) (hL 9 (by decide))
      have e10 : xs 10 = .int .i64 (i : Nat) := hv 10 _ (by rw [HVV.out]; rfl) (hL 10 (by decide))
      have e11 : xs 11 = .int .i64 (i : Nat) := hv 11 _ (by rw [HVV.out]; rfl) (hL 11 (by decide))
      have e12 : xs 12 = .int .u64 (pwI i) := hv 12 _ (by rw [HVV.out]; rfl) (hL 12 (by decide))
      simp only [putGo, Act.put, List.setIfInBounds_toArray, List.set_cons_zero, List.set_cons_succ, e0, e1, e2, e3, e4, e5, e6, e7, e8, e9, e10, e11, e12]
      clear hv e0 e1 e2 e3 e4 e5 e6 e7 e8 e9 e10 e11 e12
     have hX15 := hL 15 (by decide)
     have hX18 := hL 18 (by decide)
     have HAP := Lib.hid hA
     clear h9 hA hL
     go_wp2
     go_roundw
     case rel => exact ⟨i + 1, by omega, by go_num, HT.out.trans HAP.out.tu, HES.out _ _ (HAP.out.a2 hX15) HLA2.out, by rw [← HBS.out]; exact MaskMap.put (HAP.out.r2 hX18) HLR2.out⟩
     case measure => simp [intOf]; omega
    ·obtain rfl : i = E.length := by omega
     have hx8 := HN8.out.box.2
     go_wp2_with fail
     refine (back_any _ _ _ _).mono ?_
     rintro e W9 ⟨rfl, hW9⟩
     have HBX9 : Hid (Box W9 wr.heap.size #[.slice a f.lots.length cap]) := Lib.hid (by rw [hW9]; exact Box.new wr _ _)
     have HN9 : Hid (NewL w.heap.size A R q p w W9 #[.int .i64 f.senders, .slice a f.lots.length cap] (.slice a f.lots.length cap) (.slice av nv cv) (firstF f f.lots.length) E E.length (bitTo E E.length)) := Lib.hid (by rw [hW9]; exact HN8.out.ext (box_below' wr _))
     have HSZ9 := Lib.hid HN8.out.size
     obtain ⟨bf, hbf⟩ : ∃ x, wr.heap.size = x := ⟨_, rfl⟩
     rw [hbf] at HBX9 HSZ9 ⊢
     clear hW9 hbf hx8 HN8 HT HEM HMM
     go_wp2_with fail
     refine (wpIn_wide (n := 11)).1 ?_
     have HOV : Hid (∀ k, k < w.heap.size + 5 ∨ (Value.slice av nv cv).ownBlock = some k → k < W9.heap.size) := Lib.hid (fun k hk => by
      rcases hk with hk | hk
      ·have := HN9.out.size; omega
      ·exact (HN9.out.own.ltX k hk).2)
     have HRA : Hid (A < R ∧ R < w.heap.size + 5 ∧ R ≠ A ∧ R ≠ q ∧ R ≠ p ∧ R ≠ w.heap.size ∧ w.heap.size ≤ R) := Lib.hid (by have := HNM.out; omega)
     refine range_law (w := W9) rfl (enters_of Try.func81 (by kernel_rfl) rfl) (back_iter B bf W9 a cap f.lots (HF.out.below HN9.out.hb hB).2.2 (by have := HN9.out.size; omega) HBX9.out hl2) (Turned.refl _ _)
      (fun k hk => by rcases hk with hk | rfl; have := HN9.out.size; omega; exact HBX9.out.1) (fun k => k = R) (fun k hk => ⟨by rw [hk]; exact HN9.out.mm.lt, by rw [hk]; have := HRA.out; have := HSZ9.out; rintro (h | h) <;> omega⟩)
      (fun i W args h => by obtain ⟨vi, vk, vp, h, _⟩ := h; rw [h]; rfl) (fun i A B args h _ => h)
      (fun st i W => ∃ M, NewL w.heap.size A R q p w W #[.int .i64 f.senders, .slice a f.lots.length cap] (.slice a f.lots.length cap) (.slice av nv cv) (firstF f f.lots.length) E E.length M ∧ MaskOk E (rAt f (f.lots.length - i)) M ∧ Below B W9 W) (fun _ _ _ _ => False) ?hI (fun _ _ _ _ _ _ h _ => h) ?h0 ?hround ?hdone (fun _ _ _ _ _ _ _ _ _ h _ => h.elim)
     case hI =>
      rintro s i A' B' hs ⟨M, h1, h2, h3⟩ ht
      exact ⟨M, h1.turned ht (fun k hk h => by have := HOV.out k hk; omega), h2, h3.trans (ht.below (by have := h1.size; omega) (fun k hk h => by have := HN9.out.size; omega))⟩
     case h0 =>
      intro s W1 hs hs1 hb
      refine ⟨_, HN9.out.ext hb, ?_, hb.mono (by have := HN9.out.size; omega)⟩
      have h := bitTo_ok HNO.out hE64
      have e : (fun s e => s == e) = rAt f (f.lots.length - 0) := by funext s e; exact (rAt_last f s e).symm
      rw [e] at h
      exact h
     case hround =>
      rintro l st i W args hs hsW hi ⟨M, hn, hm, hbW⟩ ⟨vi, vk, vp, rfl, hlot⟩
      obtain ⟨k, hk⟩ : ∃ k, f.lots.length - 1 - i = k := ⟨_, rfl⟩
      have hkl : k < f.lots.length := by omega
      have hki : f.lots.length - i = k + 1 := by omega
      have HKI : Hid (f.lots.length - (i + 1) = k) := Lib.hid (by omega)
      rw [hk] at hlot ⊢
      rw [hki] at hm
      have HM := Lib.hid hm
      have HMS := Lib.hid (fun s => (hm s).1)
      obtain ⟨hli, rfl, hlp⟩ := hlot
      obtain ⟨ai, ci, rfl⟩ := hli.form
      obtain ⟨ap, cp, rfl⟩ := hlp.form
      have HLI := Lib.hid hli
      have HLP := Lib.hid hlp
      obtain ⟨bF, oF, hav, hnv, _⟩ := HN9.out.own.at (k := k) (by rw [firstF_len]; exact hkl)
      rw [firstF_len] at hnv
      subst hav hnv
      have HCF : Hid (∀ W' M', NewL w.heap.size A R q p w W' #[.int .i64 f.senders, .slice a f.lots.length cap] (.slice a f.lots.length cap) (.slice (some ⟨bF, oF, none⟩) f.lots.length cv) (firstF f f.lots.length) E E.length M' → W'.cell? ⟨bF, oF + k, none⟩ = some (.int .i64 (beforeI f k))) := Lib.hid (fun W' M' h => by
       obtain ⟨b', o', e, _, hc⟩ := h.own.at (k := k) (by rw [firstF_len]; exact hkl)
       cases e
       rw [firstF_at f hkl] at hc
       exact hc)
      have HBS : Hid (beforeI f (k + 1) = beforeI f k + (lotAt f.lots k).ins.length) := Lib.hid rfl
      have hN1 := before_bd H0.out (k := k) (by omega)
      have hN2 := before_bd H0.out (k := k + 1) (by omega)
      have HLK := Lib.hid (lotB_parts (lotsB_lot HK.out.2.2.2.2 hkl))
      have HMO : Hid (∀ j p', 0 ≤ p' → lotM f M k j (beforeI f k + p') = M (beforeI f k + p')) := Lib.hid (fun j p' hp => lotM_out HK.out.2.2.2.2 hkl hp)
      rw [HBS.out] at hN2
      obtain ⟨hN1, hN1'⟩ := hN1
      obtain ⟨hN2, hN2'⟩ := hN2
      clear hk hki hm hli hlp
      gi_wp2
      refine ⟨box_below' _ _, fun W2 ht => ?_⟩
      have HN2 : Hid (NewL w.heap.size A R q p w W2 #[.int .i64 f.senders, .slice a f.lots.length cap] (.slice a f.lots.length cap) (.slice (some ⟨bF, oF, none⟩) f.lots.length cv) (firstF f f.lots.length) E E.length M) := Lib.hid ((hn.ext (box_below' W _)).turned ht (fun k hk h => by have := HOV.out k hk; omega))
      have HX2 : Hid (Box W2 W.heap.size #[.slice ai (lotAt f.lots k).ins.length ci, .bool (lotAt f.lots k).known, .slice ap (lotAt f.lots k).perm.length cp]) := Lib.hid ((Box.new W _ _).turned ht (fun h => by omega))
      have HWS : Hid (st ≤ W.heap.size ∧ W9.heap.size + 2 ≤ st ∧ W.heap.size < W2.heap.size) := Lib.hid ⟨hsW, hs, HX2.out.1⟩
      obtain ⟨zW, hzW⟩ : ∃ z, W.heap.size = z := ⟨_, rfl⟩
      rw [hzW] at HX2 HWS ⊢
      have HB9 : Hid (Below B W9 W2) := Lib.hid ((hbW.alloc (by have := hn.size; omega) _).trans (ht.below (by have := hn.size; simp; omega) (fun k hk h => by have := HN9.out.size; omega)))
      clear hn ht hzW hs hsW hbW
      have x2 := HX2.out.2
      gi_wp2
      obtain ⟨m, hm⟩ : ∃ x, (lotAt f.lots k).ins.length = x := ⟨_, rfl⟩
      have HMM := Lib.hid hm
      rw [hm] at hN2 hN2' HX2 HLI ⊢
      clear hm x2
      gi_loopw [13, 86] (fun v' i' wr => ∃ j : Nat, j ≤ m ∧ i' = .int .i64 (j : Nat) ∧ v' = .int .u64 ((orM M (beforeI f k) j : Nat) : Int) ∧ Below W2.heap.size W2 wr) (fun _ i' _ => m - (intOf i').toNat)
      case atStart => exact ⟨0, by omega, rfl, rfl, Below.refl _ _⟩
      case round =>
       obtain ⟨j, hj, rfl, rfl, hb3⟩ := hrel
       have HB3 := Lib.hid hb3
       have HN3 := Lib.hid (HN2.out.ext hb3)
       clear hb3
       by_cases hjl : j < m
       ·obtain ⟨xo, hxo⟩ : ∃ x : Int, ((orM M (beforeI f k) j : Nat) : Int) = x := ⟨_, rfl⟩
        obtain ⟨yo, hyo⟩ : ∃ x : Int, ((M (beforeI f k + (j : Nat)) : Nat) : Int) = x := ⟨_, rfl⟩
        have HOS : Hid (bits .or .u64 xo yo = ((orM M (beforeI f k) (j + 1) : Nat) : Int)) := Lib.hid (by rw [← hxo, ← hyo, or_maskv (orM_lt HMS.out _) (HMS.out _)]; rfl)
        have HYO := Lib.hid hyo
        rw [hxo]
        clear hxo hyo
        gi_wp2
        obtain ⟨V, hV⟩ : ∃ V : List (Option Value), V = [some (.int .u64 xo), some (.pointer (some ⟨q, 0, none⟩)), some (.pointer (some ⟨q, 0, none⟩)), some (.pointer (some ⟨q, 3, none⟩)), some (.map (some R)), some (.pointer (some ⟨q, 0, none⟩)), some (.pointer (some ⟨q, 0, none⟩)), some (.pointer (some ⟨q, 1, none⟩)), some (.slice (some ⟨bF, oF, none⟩) f.lots.length cv), some (.int .i64 (k : Nat)), some (.pointer (some ⟨bF, oF + k, none⟩)), some (.int .i64 (beforeI f k)), some (.int .i64 (j : Nat)), some (.int .i64 (beforeI f k + (j : Nat))), some (.int .u64 yo), some (.int .u64 (bits .or .u64 xo yo)), some (.int .u64 (bits .or .u64 xo yo))] := ⟨_, rfl⟩
        have HVV := Lib.hid hV
        clear hV
        refine wpIn_region_V [some 89, some 90, some 91, some 92, some 93, some 94, some 95, some 96, some 97, some 98, some 99, some 100, some 101, some 102, some 103, some 104, some 13] (fun L w' xs => ValsAt V L xs ∧ (Below wr.heap.size wr w' ∧ (L 16 = true → L 0 = true))) (by kernel_rfl) (by kernel_rfl) (by rfl) (by rfl) (by rfl) ?_ ?_ ?_
        focus
         exact fun xs => ⟨ValsAt.none _ _, below_drewN (Below.refl _ wr) 1, (fun e => by cases e)⟩
        focus
         refine ⟨?_, ?_, ?_, ?_, ?_, ?_, ?_, ?_, ?_, ?_, ?_, ?_, ?_, ?_, ?_, ?_, ?_, trivial⟩
         all_goals
          intro L a' w' xs hi hd hf hJ K hK
          obtain ⟨hv, hbw, h9⟩ := hJ
          have HF := Lib.hid hf
          have HVA := Lib.hid hv
          have HLI := Lib.hid hi
          clear hf hv hi
         focus
          clear hd
          obtain ⟨ρ, hρ⟩ : ∃ ρ, a'.eval = ρ := ⟨_, rfl⟩
          have hcst : ∀ v, ρ (.const v) = v := fun v => (congrFun hρ (.const v)).symm
          have e16 : L 16 = false := by
           cases e : L 16 with
           | false => rfl
           | true => have := h9 e; rw [HLI.out] at this; cases this
          have l13 : ρ (.tmp 13) = .int .u64 xo := (congrFun hρ (.tmp 13)).symm.trans (HF.out.re 16 rfl e16)
          rw [if_pos (by simp [Region.wanted])]
          unfold Oper.wpIn
          refine ⟨fun _ _ => trivial, ?_⟩
          rw [Oper.semAt_plain _ _ _ (by intro c hc; cases hc)]
          rw [hρ]
          clear hρ
          go_simp
          exact hK.out _ _ ⟨HVA.out.set (i := 0) (by rw [HVV.out]; rfl), hbw, (fun _ => rfl)⟩
         focus
          clear hd
          obtain ⟨ρ, hρ⟩ : ∃ ρ, a'.eval = ρ := ⟨_, rfl⟩
          have hcst : ∀ v, ρ (.const v) = v := fun v => (congrFun hρ (.const v)).symm
          have l3 : ρ (.tmp 3) = .pointer (some ⟨p, 0, none⟩) := (congrFun hρ (.tmp 3)).symm.trans (HF.out.lo 3 rfl)
          have m0 := (HN3.out.ext hbw).ptr.cell
          rw [if_pos (by simp [Region.wanted])]
          unfold Oper.wpIn
          refine ⟨fun _ _ => trivial, ?_⟩
          rw [Oper.semAt_plain _ _ _ (by intro c hc; cases hc)]
          rw [hρ]
          clear hρ
          go_simp
          exact hK.out _ _ ⟨HVA.out.set (i := 1) (by rw [HVV.out]; rfl), hbw, (by exact h9)⟩
         focus
          obtain ⟨d1, _⟩ := hd
          obtain ⟨ρ, hρ⟩ : ∃ ρ, a'.eval = ρ := ⟨_, rfl⟩
          have hcst : ∀ v, ρ (.const v) = v := fun v => (congrFun hρ (.const v)).symm
          have v1 : ρ (.tmp 90) = .pointer (some ⟨q, 0, none⟩) := (congrFun hρ (.tmp 90)).symm.trans ((HF.out.ev 1 rfl d1).trans (HVA.out 1 _ (by rw [HVV.out]; rfl) d1))
          rw [if_pos (by simp [Region.wanted])]
          unfold Oper.wpIn
          refine ⟨fun _ _ => trivial, ?_⟩
          rw [Oper.semAt_plain _ _ _ (by intro c hc; cases hc)]
          rw [hρ]
          clear hρ
          go_simp
          exact hK.out _ _ ⟨HVA.out.set (i := 2) (by rw [HVV.out]; rfl), hbw, (by exact h9)⟩
         focus
          obtain ⟨d2, _⟩ := hd
          obtain ⟨ρ, hρ⟩ : ∃ ρ, a'.eval = ρ := ⟨_, rfl⟩
          have hcst : ∀ v, ρ (.const v) = v := fun v => (congrFun hρ (.const v)).symm
          have v2 : ρ (.tmp 91) = .pointer (some ⟨q, 0, none⟩) := (congrFun hρ (.tmp 91)).symm.trans ((HF.out.ev 2 rfl d2).trans (HVA.out 2 _ (by rw [HVV.out]; rfl) d2))
          rw [if_pos (by simp [Region.wanted])]
          unfold Oper.wpIn
          refine ⟨fun _ _ => trivial, ?_⟩
          rw [Oper.semAt_plain _ _ _ (by intro c hc; cases hc)]
          rw [hρ]
          clear hρ
          go_simp
          exact hK.out _ _ ⟨HVA.out.set (i := 3) (by rw [HVV.out]; rfl), hbw, (by exact h9)⟩
         focus
          obtain ⟨d3, _⟩ := hd
          obtain ⟨ρ, hρ⟩ : ∃ ρ, a'.eval = ρ := ⟨_, rfl⟩
          have hcst : ∀ v, ρ (.const v) = v := fun v => (congrFun hρ (.const v)).symm
          have v3 : ρ (.tmp 92) = .pointer (some ⟨q, 3, none⟩) := (congrFun hρ (.tmp 92)).symm.trans ((HF.out.ev 3 rfl d3).trans (HVA.out 3 _ (by rw [HVV.out]; rfl) d3))
          have m0 := (HN3.out.ext hbw).cs.cell 3
          simp at m0
          rw [if_pos (by simp [Region.wanted])]
          unfold Oper.wpIn
          refine ⟨fun _ _ => trivial, ?_⟩
          rw [Oper.semAt_plain _ _ _ (by intro c hc; cases hc)]
          rw [hρ]
          clear hρ
          go_simp
          exact hK.out _ _ ⟨HVA.out.set (i := 4) (by rw [HVV.out]; rfl), hbw, (by exact h9)⟩
         focus
          clear hd
          obtain ⟨ρ, hρ⟩ : ∃ ρ, a'.eval = ρ := ⟨_, rfl⟩
          have hcst : ∀ v, ρ (.const v) = v := fun v => (congrFun hρ (.const v)).symm
          have l3 : ρ (.tmp 3) = .pointer (some ⟨p, 0, none⟩) := (congrFun hρ (.tmp 3)).symm.trans (HF.out.lo 3 rfl)
          have m0 := (HN3.out.ext hbw).ptr.cell
          rw [if_pos (by simp [Region.wanted])]
          unfold Oper.wpIn
          refine ⟨fun _ _ => trivial, ?_⟩
          rw [Oper.semAt_plain _ _ _ (by intro c hc; cases hc)]
          rw [hρ]
          clear hρ
          go_simp
          exact hK.out _ _ ⟨HVA.out.set (i := 5) (by rw [HVV.out]; rfl), hbw, (by exact h9)⟩
         focus
          obtain ⟨d5, _⟩ := hd
          obtain ⟨ρ, hρ⟩ : ∃ ρ, a'.eval = ρ := ⟨_, rfl⟩
          have hcst : ∀ v, ρ (.const v) = v := fun v => (congrFun hρ (.const v)).symm
          have v5 : ρ (.tmp 94) = .pointer (some ⟨q, 0, none⟩) := (congrFun hρ (.tmp 94)).symm.trans ((HF.out.ev 5 rfl d5).trans (HVA.out 5 _ (by rw [HVV.out]; rfl) d5))
          rw [if_pos (by simp [Region.wanted])]
          unfold Oper.wpIn
          refine ⟨fun _ _ => trivial, ?_⟩
          rw [Oper.semAt_plain _ _ _ (by intro c hc; cases hc)]
          rw [hρ]
          clear hρ
          go_simp
          exact hK.out _ _ ⟨HVA.out.set (i := 6) (by rw [HVV.out]; rfl), hbw, (by exact h9)⟩
         focus
          obtain ⟨d6, _⟩ := hd
          obtain ⟨ρ, hρ⟩ : ∃ ρ, a'.eval = ρ := ⟨_, rfl⟩
          have hcst : ∀ v, ρ (.const v) = v := fun v => (congrFun hρ (.const v)).symm
          have v6 : ρ (.tmp 95) = .pointer (some ⟨q, 0, none⟩) := (congrFun hρ (.tmp 95)).symm.trans ((HF.out.ev 6 rfl d6).trans (HVA.out 6 _ (by rw [HVV.out]; rfl) d6))
          rw [if_pos (by simp [Region.wanted])]
          unfold Oper.wpIn
          refine ⟨fun _ _ => trivial, ?_⟩
          rw [Oper.semAt_plain _ _ _ (by intro c hc; cases hc)]
          rw [hρ]
          clear hρ
          go_simp
          exact hK.out _ _ ⟨HVA.out.set (i := 7) (by rw [HVV.out]; rfl), hbw, (by exact h9)⟩
         focus
          obtain ⟨d7, _⟩ := hd
          obtain ⟨ρ, hρ⟩ : ∃ ρ, a'.eval = ρ := ⟨_, rfl⟩
          have hcst : ∀ v, ρ (.const v) = v := fun v => (congrFun hρ (.const v)).symm
          have v7 : ρ (.tmp 96) = .pointer (some ⟨q, 1, none⟩) := (congrFun hρ (.tmp 96)).symm.trans ((HF.out.ev 7 rfl d7).trans (HVA.out 7 _ (by rw [HVV.out]; rfl) d7))
          have m0 := (HN3.out.ext hbw).cs.cell 1
          simp at m0
          rw [if_pos (by simp [Region.wanted])]
          unfold Oper.wpIn
          refine ⟨fun _ _ => trivial, ?_⟩
          rw [Oper.semAt_plain _ _ _ (by intro c hc; cases hc)]
          rw [hρ]
          clear hρ
          go_simp
          exact hK.out _ _ ⟨HVA.out.set (i := 8) (by rw [HVV.out]; rfl), hbw, (by exact h9)⟩
         focus
          clear hd
          obtain ⟨ρ, hρ⟩ : ∃ ρ, a'.eval = ρ := ⟨_, rfl⟩
          have hcst : ∀ v, ρ (.const v) = v := fun v => (congrFun hρ (.const v)).symm
          have l11 : ρ (.tmp 11) = .int .i64 (k : Nat) := (congrFun hρ (.tmp 11)).symm.trans (HF.out.lo 11 rfl)
          rw [if_pos (by simp [Region.wanted])]
          unfold Oper.wpIn
          refine ⟨fun _ _ => trivial, ?_⟩
          rw [Oper.semAt_plain _ _ _ (by intro c hc; cases hc)]
          rw [hρ]
          clear hρ
          go_simp
          exact hK.out _ _ ⟨HVA.out.set (i := 9) (by rw [HVV.out]; rfl), hbw, (by exact h9)⟩
         focus
          obtain ⟨d8, d9, _⟩ := hd
          obtain ⟨ρ, hρ⟩ : ∃ ρ, a'.eval = ρ := ⟨_, rfl⟩
          have hcst : ∀ v, ρ (.const v) = v := fun v => (congrFun hρ (.const v)).symm
          have v8 : ρ (.tmp 97) = .slice (some ⟨bF, oF, none⟩) f.lots.length cv := (congrFun hρ (.tmp 97)).symm.trans ((HF.out.ev 8 rfl d8).trans (HVA.out 8 _ (by rw [HVV.out]; rfl) d8))
          have v9 : ρ (.tmp 98) = .int .i64 (k : Nat) := (congrFun hρ (.tmp 98)).symm.trans ((HF.out.ev 9 rfl d9).trans (HVA.out 9 _ (by rw [HVV.out]; rfl) d9))
          rw [if_pos (by simp [Region.wanted])]
          unfold Oper.wpIn
          refine ⟨fun _ _ => trivial, ?_⟩
          rw [Oper.semAt_plain _ _ _ (by intro c hc; cases hc)]
          rw [hρ]
          clear hρ
          go_simp
          exact hK.out _ _ ⟨HVA.out.set (i := 10) (by rw [HVV.out]; rfl), hbw, (by exact h9)⟩
         focus
          obtain ⟨d10, _⟩ := hd
          obtain ⟨ρ, hρ⟩ : ∃ ρ, a'.eval = ρ := ⟨_, rfl⟩
          have hcst : ∀ v, ρ (.const v) = v := fun v => (congrFun hρ (.const v)).symm
          have v10 : ρ (.tmp 99) = .pointer (some ⟨bF, oF + k, none⟩) := (congrFun hρ (.tmp 99)).symm.trans ((HF.out.ev 10 rfl d10).trans (HVA.out 10 _ (by rw [HVV.out]; rfl) d10))
          have m0 := HCF.out _ _ (HN3.out.ext hbw)
          rw [if_pos (by simp [Region.wanted])]
          unfold Oper.wpIn
          refine ⟨fun _ _ => trivial, ?_⟩
          rw [Oper.semAt_plain _ _ _ (by intro c hc; cases hc)]
          rw [hρ]
          clear hρ
          go_simp
          exact hK.out _ _ ⟨HVA.out.set (i := 11) (by rw [HVV.out]; rfl), hbw, (by exact h9)⟩
         focus
          clear hd
          obtain ⟨ρ, hρ⟩ : ∃ ρ, a'.eval = ρ := ⟨_, rfl⟩
          have hcst : ∀ v, ρ (.const v) = v := fun v => (congrFun hρ (.const v)).symm
          have l14 : ρ (.tmp 14) = .int .i64 (j : Nat) := (congrFun hρ (.tmp 14)).symm.trans (HF.out.lo 14 rfl)
          rw [if_pos (by simp [Region.wanted])]
          unfold Oper.wpIn
          refine ⟨fun _ _ => trivial, ?_⟩
          rw [Oper.semAt_plain _ _ _ (by intro c hc; cases hc)]
          rw [hρ]
          clear hρ
          go_simp
          exact hK.out _ _ ⟨HVA.out.set (i := 12) (by rw [HVV.out]; rfl), hbw, (by exact h9)⟩
         focus
          obtain ⟨d11, d12, _⟩ := hd
          obtain ⟨ρ, hρ⟩ : ∃ ρ, a'.eval = ρ := ⟨_, rfl⟩
          have hcst : ∀ v, ρ (.const v) = v := fun v => (congrFun hρ (.const v)).symm
          have v11 : ρ (.tmp 100) = .int .i64 (beforeI f k) := (congrFun hρ (.tmp 100)).symm.trans ((HF.out.ev 11 rfl d11).trans (HVA.out 11 _ (by rw [HVV.out]; rfl) d11))
          have v12 : ρ (.tmp 101) = .int .i64 (j : Nat) := (congrFun hρ (.tmp 101)).symm.trans ((HF.out.ev 12 rfl d12).trans (HVA.out 12 _ (by rw [HVV.out]; rfl) d12))
          have hwj : IntKind.i64.wrap (beforeI f k + (j : Nat)) = beforeI f k + (j : Nat) := IntWalk.i64_in _ (by omega)
          rw [if_pos (by simp [Region.wanted])]
          unfold Oper.wpIn
          refine ⟨fun _ _ => trivial, ?_⟩
          rw [Oper.semAt_plain _ _ _ (by intro c hc; cases hc)]
          rw [hρ]
          clear hρ
          go_simp
          exact hK.out _ _ ⟨HVA.out.set (i := 13) (by rw [HVV.out]; rfl), hbw, (by exact h9)⟩
         focus
          obtain ⟨d4, d13, _⟩ := hd
          have v4 : a'.eval (.tmp 93) = .map (some R) := (HF.out.ev 4 rfl d4).trans (HVA.out 4 _ (by rw [HVV.out]; rfl) d4)
          have v13 : a'.eval (.tmp 102) = .int .i64 (beforeI f k + (j : Nat)) := (HF.out.ev 13 rfl d13).trans (HVA.out 13 _ (by rw [HVV.out]; rfl) d13)
          rw [if_pos (by simp [Region.wanted])]
          obtain ⟨lR, hl1, hl2⟩ := (HN3.out.ext hbw).mm
          have hrun := run_lookup_ints (P := Try.prog) Try.underlying65 Try.underlying3 (Try.zeroValue89 w') hl1 (beforeI f k + (j : Nat)) false
          have hv : (if false = true then Value.tuple #[(alook lR (beforeI f k + (j : Nat))).getD (.int .u64 0), .bool (alook lR (beforeI f k + (j : Nat))).isSome] else (alook lR (beforeI f k + (j : Nat))).getD (.int .u64 0)) = .int .u64 yo := by rw [if_neg (by decide), hl2]; unfold maskV; rw [HYO.out]
          rw [hv] at hrun
          refine wpIn_of_lookup rfl v4 v13 hrun ?_
          exact hK.out _ _ ⟨HVA.out.set (i := 14) (by rw [HVV.out]; rfl), hbw, (by exact h9)⟩
         focus
          obtain ⟨d0, d14, _⟩ := hd
          obtain ⟨ρ, hρ⟩ : ∃ ρ, a'.eval = ρ := ⟨_, rfl⟩
          have hcst : ∀ v, ρ (.const v) = v := fun v => (congrFun hρ (.const v)).symm
          have v0 : ρ (.tmp 89) = .int .u64 xo := (congrFun hρ (.tmp 89)).symm.trans ((HF.out.ev 0 rfl d0).trans (HVA.out 0 _ (by rw [HVV.out]; rfl) d0))
          have v14 : ρ (.tmp 103) = .int .u64 yo := (congrFun hρ (.tmp 103)).symm.trans ((HF.out.ev 14 rfl d14).trans (HVA.out 14 _ (by rw [HVV.out]; rfl) d14))
          rw [if_pos (by simp [Region.wanted])]
          unfold Oper.wpIn
          refine ⟨fun _ _ => trivial, ?_⟩
          rw [Oper.semAt_plain _ _ _ (by intro c hc; cases hc)]
          rw [hρ]
          clear hρ
          go_simp
          exact hK.out _ _ ⟨HVA.out.set (i := 15) (by rw [HVV.out]; rfl), hbw, (by exact h9)⟩
         focus
          obtain ⟨d15, d0, d1, d2, d3, d4, d5, d6, d7, d8, d9, d10, d11, d12, d13, d14, _, _⟩ := hd
          obtain ⟨ρ, hρ⟩ : ∃ ρ, a'.eval = ρ := ⟨_, rfl⟩
          have hcst : ∀ v, ρ (.const v) = v := fun v => (congrFun hρ (.const v)).symm
          have v15 : ρ (.tmp 104) = .int .u64 (bits .or .u64 xo yo) := (congrFun hρ (.tmp 104)).symm.trans ((HF.out.ev 15 rfl d15).trans (HVA.out 15 _ (by rw [HVV.out]; rfl) d15))
          rw [if_pos (by simp [Region.wanted])]
          unfold Oper.wpIn
          refine ⟨fun _ _ => trivial, ?_⟩
          rw [Oper.semAt_plain _ _ _ (by intro c hc; cases hc)]
          rw [hρ]
          clear hρ
          go_simp
          exact hK.out _ _ ⟨HVA.out.set (i := 16) (by rw [HVV.out]; rfl), hbw, (fun _ => d0)⟩
        focus
         intro L w' xs hL hJ
         obtain ⟨hv, hbw, h9⟩ := hJ
         have e0 : xs 0 = .int .u64 xo := hv 0 _ (by rw [HVV.out]; rfl) (hL 0 (by decide))
         have e1 : xs 1 = .pointer (some ⟨q, 0, none⟩) := hv 1 _ (by rw [HVV.out]; rfl) (hL 1 (by decide))
         have e2 : xs 2 = .pointer (some ⟨q, 0, none⟩) := hv 2 _ (by rw [HVV.out]; rfl) (hL 2 (by decide))
         have e3 : xs 3 = .pointer (some ⟨q, 3, none⟩) := hv 3 _ (by rw [HVV.out]; rfl) (hL 3 (by decide))
         have e4 : xs 4 = .map (some R) := hv 4 _ (by rw [HVV.out]; rfl) (hL 4 (by decide))
         have e5 : xs 5 = .pointer (some ⟨q, 0, none⟩) := hv 5 _ (by rw [HVV.out]; rfl) (hL 5 (by decide))
         have e6 : xs 6 = .pointer (some ⟨q, 0, none⟩) := hv 6 _ (by rw [HVV.out]; rfl) (hL 6 (by decide))
         have e7 : xs 7 = .pointer (some ⟨q, 1, none⟩) := hv 7 _ (by rw [HVV.out]; rfl) (hL 7 (by decide))
         have e8 : xs 8 = .slice (some ⟨bF, oF, none⟩) f.lots.length cv := hv 8 _ (by rw [HVV.out]; rfl) (hL 8 (by decide))
         have e9 : xs 9 = .int .i64 (k : Nat) := hv 9 _ (by rw [HVV.out]; rfl) (hL 9 (by decide))
         have e10 : xs 10 = .pointer (some ⟨bF, oF + k, none⟩) := hv 10 _ (by rw [HVV.out]; rfl) (hL 10 (by decide))
         have e11 : xs 11 = .int .i64 (beforeI f k) := hv 11 _ (by rw [HVV.out]; rfl) (hL 11 (by decide))
         have e12 : xs 12 = .int .i64 (j : Nat) := hv 12 _ (by rw [HVV.out]; rfl) (hL 12 (by decide))
         have e13 : xs 13 = .int .i64 (beforeI f k + (j : Nat)) := hv 13 _ (by rw [HVV.out]; rfl) (hL 13 (by decide))
         have e14 : xs 14 = .int .u64 yo := hv 14 _ (by rw [HVV.out]; rfl) (hL 14 (by decide))
         have e15 : xs 15 = .int .u64 (bits .or .u64 xo yo) := hv 15 _ (by rw [HVV.out]; rfl) (hL 15 (by decide))
         have e16 : xs 16 = .int .u64 (bits .or .u64 xo yo) := hv 16 _ (by rw [HVV.out]; rfl) (hL 16 (by decide))
         simp only [putGo, Act.put, List.setIfInBounds_toArray, List.set_cons_zero, List.set_cons_succ, e0, e1, e2, e3, e4, e5, e6, e7, e8, e9, e10, e11, e12, e13, e14, e15, e16]
         clear hv e0 e1 e2 e3 e4 e5 e6 e7 e8 e9 e10 e11 e12 e13 e14 e15 e16
        have HW3 := Lib.hid hbw
        clear hbw h9 hL
        gi_wp2
        go_roundw
        case rel => exact ⟨j + 1, by omega, by go_num, by rw [HOS.out], HB3.out.trans (HW3.out.mono HB3.out.size)⟩
        case measure => simp [intOf]; omega
       ·obtain rfl : j = m := by omega
        have x3 := (HX2.out.ext HB3.out).2
        have HX3 := Lib.hid (HX2.out.ext HB3.out)
        have HB9' := Lib.hid (HB9.out.trans (HB3.out.mono (by have := HN2.out.size; omega)))
        obtain ⟨W3, hW3⟩ : ∃ W, wr = W := ⟨_, rfl⟩
        have HZ3 := Lib.hid HB3.out.size
        rw [hW3] at HN3 HX3 HB9' x3 HB3 HZ3 ⊢
        clear hW3
        gi_wp2
        have HXO := Lib.hid (rfl : orM M (beforeI f k) j = orM M (beforeI f k) j)
        obtain ⟨OM, hOM⟩ : ∃ x, orM M (beforeI f k) j = x := ⟨_, rfl⟩
        have HOM : Hid (orM M (beforeI f k) (lotAt f.lots k).ins.length = OM) := Lib.hid (by rw [HMM.out]; exact hOM)
        rw [hOM]
        clear hOM HXO x3
        obtain ⟨kn, hkn⟩ : ∃ x, (lotAt f.lots k).known = x := ⟨_, rfl⟩
        have HKN := Lib.hid hkn
        rw [hkn] at HX3 ⊢
        clear hkn HX2 HB9
        gi_loopw [109] (fun i' wr => ∃ y : Nat, y ≤ j ∧ i' = .int .i64 (y : Nat) ∧ Turned (fun k => k = R) W3 wr ∧ MaskMap wr R (lotM f M k y)) (fun i' _ => j - (intOf i').toNat)
        case atStart => exact ⟨0, by omega, rfl, Turned.refl _ _, by rw [lotM_zero]; exact HN3.out.mm⟩
        case round =>
         obtain ⟨y, hy, rfl, ht, hmm'⟩ := hrel
         have HT := Lib.hid ht
         have HMP := Lib.hid hmm'
         have HNM4 := Lib.hid (fun W' M' (h : Turned (fun k => k = R) W3 W') (hm : MaskMap W' R M') => HN3.out.maps (h.mono (fun _ _ e => .inr e)) (HN3.out.em.turned h (fun e => HRA.out.2.2.1 e.symm)) hm)
         have HXT := Lib.hid (fun W' (h : Turned (fun k => k = R) W3 W') => HX3.out.turned h (fun e => by have := HWS.out; have := HRA.out; have := HSZ9.out; have := HN9.out.size; omega))
         have HBT := Lib.hid (fun W' (h : Turned (fun k => k = R) W3 W') => HB9'.out.trans (h.below (B := B) (by have := HN3.out.size; omega) (fun k hk e => by have := HRA.out; omega)))
         clear ht hmm'
         by_cases hyl : y < j
         ·obtain ⟨bi, oi, ci', ⟨ai', hai, _, _, hai'⟩, _, _, hci⟩ := HLI.out
          obtain ⟨rfl, hlj, rfl⟩ : ai = ai' ∧ j = (lotAt f.lots k).ins.length ∧ ci = ci' := by simpa using hai
          obtain rfl : ai = some ⟨bi, oi, none⟩ := by rcases hai' with h | h; exact h; omega
          have c1 := ((hci y (by omega)).below (HBT.out _ HT.out) (Nat.le_refl _)).2
          have HSP : Hid (nth (lotAt f.lots k).ins y < beforeI f k) := Lib.hid (HLK.out.2.2.1 _ (nth_mem (by omega))).2.1
          have HSL := Lib.hid (lotM_step (f := f) (M := M) (k := k) (i := y) HLK.out.2.1 (by omega))
          rw [HOM.out, HKN.out] at HSL
          obtain ⟨sp, hsp⟩ : ∃ x, nth (lotAt f.lots k).ins y = x := ⟨_, rfl⟩
          rw [hsp] at c1 HSP HSL
          have HSPE := Lib.hid hsp
          obtain ⟨lR, hR1, hR2⟩ := HMP.out
          have HR1 := Lib.hid hR1
          have HR2 := Lib.hid hR2
          have p1 := (HNM4.out _ _ HT.out HMP.out).ptr.cell
          have q1 := (HNM4.out _ _ HT.out HMP.out).cs.cell 3
          simp at q1
          have hyk : y < (lotAt f.lots k).ins.length := by omega
          clear hsp hai hai' hci hR1 hR2 hlj
          cases kn
          ·rw [if_neg (by decide)] at HSL
           gi_wp2_with (gi_at_mapUpdate; refine wpListIn_update_ints rfl _ _ _ rfl Try.underlying65 Try.underlying3 rfl HR1.out rfl rfl ?_; intro w8 hs8 hg8 hz8; have HS8 := Lib.hid hs8; have HT8 : Hid (Turned (fun k => k = R) W3 w8) := Lib.hid (HT.out.trans (Turned.of_grown hg8 (fun k e => by simpa using e.symm))); clear hs8 hg8 hz8; have x8 := (HXT.out _ HT8.out).2)
           clear c1 p1 q1
           have HMP8 : Hid (MaskMap w8 R (putM (lotM f M k y) sp OM)) := Lib.hid (by
            exact MaskMap.put HS8.out HR2.out)
           go_roundw
           case rel => exact ⟨y + 1, by omega, by go_num, HT8.out, by rw [← HSL.out]; exact HMP8.out⟩
           case measure => simp [intOf]; omega
          ·rw [if_pos rfl] at HSL
           gi_wp2_with (gi_at_mapUpdate; refine wpListIn_update_ints rfl _ _ _ rfl Try.underlying65 Try.underlying3 rfl HR1.out rfl rfl ?_; intro w8 hs8 hg8 hz8; have HS8 := Lib.hid hs8; have HT8 : Hid (Turned (fun k => k = R) W3 w8) := Lib.hid (HT.out.trans (Turned.of_grown hg8 (fun k e => by simpa using e.symm))); clear hs8 hg8 hz8; have x8 := (HXT.out _ HT8.out).2)
           clear c1 p1 q1
           have HMP8 : Hid (MaskMap w8 R (putM (lotM f M k y) sp OM)) := Lib.hid (by
            exact MaskMap.put HS8.out HR2.out)
           have hpm := permB_parts (HLK.out.2.2.2.1 HKN.out)
           obtain ⟨bp, op, cp', ⟨ap', hap, _, _, hap'⟩, _, _, hcp⟩ := HLP.out
           obtain ⟨rfl, rfl⟩ : ap = ap' ∧ cp = cp' := by simpa using hap
           have hpl : y < (lotAt f.lots k).perm.length := by rw [hpm.2.1]; exact hyk
           obtain rfl : ap = some ⟨bp, op, none⟩ := by rcases hap' with h | h; exact h; omega
           have HCP : Hid (∀ W', Turned (fun k => k = R) W3 W' → W'.cell? ⟨bp, op + y, none⟩ = some (.int .i64 (nth (lotAt f.lots k).perm y))) := Lib.hid (fun W' h => ((hcp y hpl).below (HBT.out _ h) (Nat.le_refl _)).2)
           have hpi := hpm.1 _ (nth_mem hpl)
           obtain ⟨pi, hpi'⟩ : ∃ x, nth (lotAt f.lots k).perm y = x := ⟨_, rfl⟩
           rw [hpi'] at HCP HSL hpi
           obtain ⟨hp1, hp2⟩ := hpi
           obtain ⟨yo, hyo⟩ : ∃ x : Int, ((M (beforeI f k + pi) : Nat) : Int) = x := ⟨_, rfl⟩
           have HYO := Lib.hid hyo
           have HPU : Hid (putM (lotM f M k y) sp OM (beforeI f k + pi) = M (beforeI f k + pi)) := Lib.hid (by
            unfold putM
            rw [if_neg (by have := HSP.out; omega), HMO.out y pi hp1])
           have hbs : beforeI f k + pi < 9223372036854775807 := by omega
           obtain ⟨lS, hS1, hS2⟩ := HMP8.out
           have HS1 := Lib.hid hS1
           have HS2 := Lib.hid hS2
           clear hpm hap hap' hcp hpi' hyo hS1 hS2
           have HN8' := Lib.hid (HNM4.out _ _ HT8.out HMP8.out)
           have HPT : Hid (∀ W', Turned (fun k => k = R) w8 W' → Cell1 W' p (.pointer (some ⟨q, 0, none⟩)) ∧ CellsN W' q #[.slice a f.lots.length cap, .slice (some ⟨bF, oF, none⟩) f.lots.length cv, .map (some A), .map (some R)]) := Lib.hid (fun W' h => ⟨HN8'.out.ptr.turned h (fun e => HRA.out.2.2.2.2.1 e.symm), HN8'.out.cs.turned h (fun e => HRA.out.2.2.2.1 e.symm)⟩)
           have HPF : Hid (∀ W', Turned (fun k => k = R) w8 W' → W'.cell? ⟨bF, oF + k, none⟩ = some (.int .i64 (beforeI f k))) := Lib.hid (fun W' h => by
            have hown := HN8'.out.own.ltX bF rfl
            exact (h.cell (p := ⟨bF, oF + k, none⟩) hown.2 (fun e => by have h1 := HRA.out.2.1; have e2 : bF = R := e; omega)).trans (HCF.out _ _ HN8'.out))
           obtain ⟨V, hV⟩ : ∃ V : List (Option Value), V = [some (.pointer (some ⟨q, 0, none⟩)), some (.pointer (some ⟨q, 0, none⟩)), some (.pointer (some ⟨q, 3, none⟩)), some (.map (some R)), some (.int .i64 sp), some (.pointer (some ⟨q, 0, none⟩)), some (.pointer (some ⟨q, 0, none⟩)), some (.pointer (some ⟨q, 3, none⟩)), some (.map (some R)), some (.pointer (some ⟨q, 0, none⟩)), some (.pointer (some ⟨q, 0, none⟩)), some (.pointer (some ⟨q, 1, none⟩)), some (.slice (some ⟨bF, oF, none⟩) f.lots.length cv), some (.int .i64 (k : Nat)), some (.pointer (some ⟨bF, oF + k, none⟩)), some (.int .i64 (beforeI f k)), some (.pointer (some ⟨zW, 2, none⟩)), some (.slice (some ⟨bp, op, none⟩) (lotAt f.lots k).perm.length cp), some (.int .i64 (y : Nat)), some (.pointer (some ⟨bp, op + y, none⟩)), some (.int .i64 pi), some (.int .i64 (beforeI f k + pi)), some (.int .u64 yo), none] := ⟨_, rfl⟩
           have HVV := Lib.hid hV
           clear hV
           refine wpIn_region_V [some 122, some 123, some 124, some 125, some 126, some 127, some 128, some 129, some 130, some 131, some 132, some 133, some 134, some 135, some 136, some 137, some 138, some 139, some 140, some 141, some 142, some 143, some 144, none] (fun L w' xs => ValsAt V L xs ∧ (Turned (fun k => k = R) w8 w' ∧ ((L 23 = false → IntMap w' R lS) ∧ (L 23 = true → IntMap w' R (aset lS sp (.int .u64 yo))) ∧ (L 23 = true → L 22 = true)))) (by kernel_rfl) (by kernel_rfl) (by rfl) (by rfl) (by rfl) ?_ ?_ ?_
           focus
            exact fun xs => ⟨ValsAt.none _ _, ⟨rfl, rfl, rfl, Nat.le_refl _, fun _ _ _ => rfl⟩, (fun _ => HS1.out), (fun e => by cases e), (fun e => by cases e)⟩
           focus
            refine ⟨?_, ?_, ?_, ?_, ?_, ?_, ?_, ?_, ?_, ?_, ?_, ?_, ?_, ?_, ?_, ?_, ?_, ?_, ?_, ?_, ?_, ?_, ?_, ?_, trivial⟩
            all_goals
             intro L a' w' xs hi hd hf hJ K hK
             obtain ⟨hv, htw, h9⟩ := hJ
             have HF := Lib.hid hf
             have HVA := Lib.hid hv
             have HLI := Lib.hid hi
             clear hf hv hi
            focus
             clear hd
             obtain ⟨ρ, hρ⟩ : ∃ ρ, a'.eval = ρ := ⟨_, rfl⟩
             have hcst : ∀ v, ρ (.const v) = v := fun v => (congrFun hρ (.const v)).symm
             have l3 : ρ (.tmp 3) = .pointer (some ⟨p, 0, none⟩) := (congrFun hρ (.tmp 3)).symm.trans (HF.out.lo 3 rfl)
             have m0 := (HPT.out _ htw).1.cell
             rw [if_pos (by simp [Region.wanted])]
             unfold Oper.wpIn
             refine ⟨fun _ _ => trivial, ?_⟩
             rw [Oper.semAt_plain _ _ _ (by intro c hc; cases hc)]
             rw [hρ]
             clear hρ
             go_simp
             exact hK.out _ _ ⟨HVA.out.set (i := 0) (by rw [HVV.out]; rfl), htw, (by exact h9)⟩
            focus
             obtain ⟨d0, _⟩ := hd
             obtain ⟨ρ, hρ⟩ : ∃ ρ, a'.eval = ρ := ⟨_, rfl⟩
             have hcst : ∀ v, ρ (.const v) = v := fun v => (congrFun hρ (.const v)).symm
             have v0 : ρ (.tmp 122) = .pointer (some ⟨q, 0, none⟩) := (congrFun hρ (.tmp 122)).symm.trans ((HF.out.ev 0 rfl d0).trans (HVA.out 0 _ (by rw [HVV.out]; rfl) d0))
             rw [if_pos (by simp [Region.wanted])]
             unfold Oper.wpIn
             refine ⟨fun _ _ => trivial, ?_⟩
             rw [Oper.semAt_plain _ _ _ (by intro c hc; cases hc)]
             rw [hρ]
             clear hρ
             go_simp
             exact hK.out _ _ ⟨HVA.out.set (i := 1) (by rw [HVV.out]; rfl), htw, (by exact h9)⟩
            focus
             obtain ⟨d1, _⟩ := hd
             obtain ⟨ρ, hρ⟩ : ∃ ρ, a'.eval = ρ := ⟨_, rfl⟩
             have hcst : ∀ v, ρ (.const v) = v := fun v => (congrFun hρ (.const v)).symm
             have v1 : ρ (.tmp 123) = .pointer (some ⟨q, 0, none⟩) := (congrFun hρ (.tmp 123)).symm.trans ((HF.out.ev 1 rfl d1).trans (HVA.out 1 _ (by rw [HVV.out]; rfl) d1))
             rw [if_pos (by simp [Region.wanted])]
             unfold Oper.wpIn
             refine ⟨fun _ _ => trivial, ?_⟩
             rw [Oper.semAt_plain _ _ _ (by intro c hc; cases hc)]
             rw [hρ]
             clear hρ
             go_simp
             exact hK.out _ _ ⟨HVA.out.set (i := 2) (by rw [HVV.out]; rfl), htw, (by exact h9)⟩
            focus
             obtain ⟨d2, _⟩ := hd
             obtain ⟨ρ, hρ⟩ : ∃ ρ, a'.eval = ρ := ⟨_, rfl⟩
             have hcst : ∀ v, ρ (.const v) = v := fun v => (congrFun hρ (.const v)).symm
             have v2 : ρ (.tmp 124) = .pointer (some ⟨q, 3, none⟩) := (congrFun hρ (.tmp 124)).symm.trans ((HF.out.ev 2 rfl d2).trans (HVA.out 2 _ (by rw [HVV.out]; rfl) d2))
             have m0 := (HPT.out _ htw).2.cell 3
             simp at m0
             rw [if_pos (by simp [Region.wanted])]
             unfold Oper.wpIn
             refine ⟨fun _ _ => trivial, ?_⟩
             rw [Oper.semAt_plain _ _ _ (by intro c hc; cases hc)]
             rw [hρ]
             clear hρ
             go_simp
             exact hK.out _ _ ⟨HVA.out.set (i := 3) (by rw [HVV.out]; rfl), htw, (by exact h9)⟩
            focus
             clear hd
             obtain ⟨ρ, hρ⟩ : ∃ ρ, a'.eval = ρ := ⟨_, rfl⟩
             have hcst : ∀ v, ρ (.const v) = v := fun v => (congrFun hρ (.const v)).symm
             have l16 : ρ (.tmp 16) = .int .i64 sp := (congrFun hρ (.tmp 16)).symm.trans (HF.out.lo 16 rfl)
             rw [if_pos (by simp [Region.wanted])]
             unfold Oper.wpIn
             refine ⟨fun _ _ => trivial, ?_⟩
             rw [Oper.semAt_plain _ _ _ (by intro c hc; cases hc)]
             rw [hρ]
             clear hρ
             go_simp
             exact hK.out _ _ ⟨HVA.out.set (i := 4) (by rw [HVV.out]; rfl), htw, (by exact h9)⟩
            focus
             clear hd
             obtain ⟨ρ, hρ⟩ : ∃ ρ, a'.eval = ρ := ⟨_, rfl⟩
             have hcst : ∀ v, ρ (.const v) = v := fun v => (congrFun hρ (.const v)).symm
             have l3 : ρ (.tmp 3) = .pointer (some ⟨p, 0, none⟩) := (congrFun hρ (.tmp 3)).symm.trans (HF.out.lo 3 rfl)
             have m0 := (HPT.out _ htw).1.cell
             rw [if_pos (by simp [Region.wanted])]
             unfold Oper.wpIn
             refine ⟨fun _ _ => trivial, ?_⟩
             rw [Oper.semAt_plain _ _ _ (by intro c hc; cases hc)]
             rw [hρ]
             clear hρ
             go_simp
             exact hK.out _ _ ⟨HVA.out.set (i := 5) (by rw [HVV.out]; rfl), htw, (by exact h9)⟩
            focus
             obtain ⟨d5, _⟩ := hd
             obtain ⟨ρ, hρ⟩ : ∃ ρ, a'.eval = ρ := ⟨_, rfl⟩
             have hcst : ∀ v, ρ (.const v) = v := fun v => (congrFun hρ (.const v)).symm
             have v5 : ρ (.tmp 127) = .pointer (some ⟨q, 0, none⟩) := (congrFun hρ (.tmp 127)).symm.trans ((HF.out.ev 5 rfl d5).trans (HVA.out 5 _ (by rw [HVV.out]; rfl) d5))
             rw [if_pos (by simp [Region.wanted])]
             unfold Oper.wpIn
             refine ⟨fun _ _ => trivial, ?_⟩
             rw [Oper.semAt_plain _ _ _ (by intro c hc; cases hc)]
             rw [hρ]
             clear hρ
             go_simp
             exact hK.out _ _ ⟨HVA.out.set (i := 6) (by rw [HVV.out]; rfl), htw, (by exact h9)⟩
            focus
             obtain ⟨d6, _⟩ := hd
             obtain ⟨ρ, hρ⟩ : ∃ ρ, a'.eval = ρ := ⟨_, rfl⟩
             have hcst : ∀ v, ρ (.const v) = v := fun v => (congrFun hρ (.const v)).symm
             have v6 : ρ (.tmp 128) = .pointer (some ⟨q, 0, none⟩) := (congrFun hρ (.tmp 128)).symm.trans ((HF.out.ev 6 rfl d6).trans (HVA.out 6 _ (by rw [HVV.out]; rfl) d6))
             rw [if_pos (by simp [Region.wanted])]
             unfold Oper.wpIn
             refine ⟨fun _ _ => trivial, ?_⟩
             rw [Oper.semAt_plain _ _ _ (by intro c hc; cases hc)]
             rw [hρ]
             clear hρ
             go_simp
             exact hK.out _ _ ⟨HVA.out.set (i := 7) (by rw [HVV.out]; rfl), htw, (by exact h9)⟩
            focus
             obtain ⟨d7, _⟩ := hd
             obtain ⟨ρ, hρ⟩ : ∃ ρ, a'.eval = ρ := ⟨_, rfl⟩
             have hcst : ∀ v, ρ (.const v) = v := fun v => (congrFun hρ (.const v)).symm
             have v7 : ρ (.tmp 129) = .pointer (some ⟨q, 3, none⟩) := (congrFun hρ (.tmp 129)).symm.trans ((HF.out.ev 7 rfl d7).trans (HVA.out 7 _ (by rw [HVV.out]; rfl) d7))
             have m0 := (HPT.out _ htw).2.cell 3
             simp at m0
             rw [if_pos (by simp [Region.wanted])]
             unfold Oper.wpIn
             refine ⟨fun _ _ => trivial, ?_⟩
             rw [Oper.semAt_plain _ _ _ (by intro c hc; cases hc)]
             rw [hρ]
             clear hρ
             go_simp
             exact hK.out _ _ ⟨HVA.out.set (i := 8) (by rw [HVV.out]; rfl), htw, (by exact h9)⟩
            focus
             clear hd
             obtain ⟨ρ, hρ⟩ : ∃ ρ, a'.eval = ρ := ⟨_, rfl⟩
             have hcst : ∀ v, ρ (.const v) = v := fun v => (congrFun hρ (.const v)).symm
             have l3 : ρ (.tmp 3) = .pointer (some ⟨p, 0, none⟩) := (congrFun hρ (.tmp 3)).symm.trans (HF.out.lo 3 rfl)
             have m0 := (HPT.out _ htw).1.cell
             rw [if_pos (by simp [Region.wanted])]
             unfold Oper.wpIn
             refine ⟨fun _ _ => trivial, ?_⟩
             rw [Oper.semAt_plain _ _ _ (by intro c hc; cases hc)]
             rw [hρ]
             clear hρ
             go_simp
             exact hK.out _ _ ⟨HVA.out.set (i := 9) (by rw [HVV.out]; rfl), htw, (by exact h9)⟩
            focus
             obtain ⟨d9, _⟩ := hd
             obtain ⟨ρ, hρ⟩ : ∃ ρ, a'.eval = ρ := ⟨_, rfl⟩
             have hcst : ∀ v, ρ (.const v) = v := fun v => (congrFun hρ (.const v)).symm
             have v9 : ρ (.tmp 131) = .pointer (some ⟨q, 0, none⟩) := (congrFun hρ (.tmp 131)).symm.trans ((HF.out.ev 9 rfl d9).trans (HVA.out 9 _ (by rw [HVV.out]; rfl) d9))
             rw [if_pos (by simp [Region.wanted])]
             unfold Oper.wpIn
             refine ⟨fun _ _ => trivial, ?_⟩
             rw [Oper.semAt_plain _ _ _ (by intro c hc; cases hc)]
             rw [hρ]
             clear hρ
             go_simp
             exact hK.out _ _ ⟨HVA.out.set (i := 10) (by rw [HVV.out]; rfl), htw, (by exact h9)⟩
            focus
             obtain ⟨d10, _⟩ := hd
             obtain ⟨ρ, hρ⟩ : ∃ ρ, a'.eval = ρ := ⟨_, rfl⟩
             have hcst : ∀ v, ρ (.const v) = v := fun v => (congrFun hρ (.const v)).symm
             have v10 : ρ (.tmp 132) = .pointer (some ⟨q, 0, none⟩) := (congrFun hρ (.tmp 132)).symm.trans ((HF.out.ev 10 rfl d10).trans (HVA.out 10 _ (by rw [HVV.out]; rfl) d10))
             rw [if_pos (by simp [Region.wanted])]
             unfold Oper.wpIn
             refine ⟨fun _ _ => trivial, ?_⟩
             rw [Oper.semAt_plain _ _ _ (by intro c hc; cases hc)]
             rw [hρ]
             clear hρ
             go_simp
             exact hK.out _ _ ⟨HVA.out.set (i := 11) (by rw [HVV.out]; rfl), htw, (by exact h9)⟩
            focus
             obtain ⟨d11, _⟩ := hd
             obtain ⟨ρ, hρ⟩ : ∃ ρ, a'.eval = ρ := ⟨_, rfl⟩
             have hcst : ∀ v, ρ (.const v) = v := fun v => (congrFun hρ (.const v)).symm
             have v11 : ρ (.tmp 133) = .pointer (some ⟨q, 1, none⟩) := (congrFun hρ (.tmp 133)).symm.trans ((HF.out.ev 11 rfl d11).trans (HVA.out 11 _ (by rw [HVV.out]; rfl) d11))
             have m0 := (HPT.out _ htw).2.cell 1
             simp at m0
             rw [if_pos (by simp [Region.wanted])]
             unfold Oper.wpIn
             refine ⟨fun _ _ => trivial, ?_⟩
             rw [Oper.semAt_plain _ _ _ (by intro c hc; cases hc)]
             rw [hρ]
             clear hρ
             go_simp
             exact hK.out _ _ ⟨HVA.out.set (i := 12) (by rw [HVV.out]; rfl), htw, (by exact h9)⟩
            focus
             clear hd
             obtain ⟨ρ, hρ⟩ : ∃ ρ, a'.eval = ρ := ⟨_, rfl⟩
             have hcst : ∀ v, ρ (.const v) = v := fun v => (congrFun hρ (.const v)).symm
             have l11 : ρ (.tmp 11) = .int .i64 (k : Nat) := (congrFun hρ (.tmp 11)).symm.trans (HF.out.lo 11 rfl)
             rw [if_pos (by simp [Region.wanted])]
             unfold Oper.wpIn
             refine ⟨fun _ _ => trivial, ?_⟩
             rw [Oper.semAt_plain _ _ _ (by intro c hc; cases hc)]
             rw [hρ]
             clear hρ
             go_simp
             exact hK.out _ _ ⟨HVA.out.set (i := 13) (by rw [HVV.out]; rfl), htw, (by exact h9)⟩
            focus
             obtain ⟨d12, d13, _⟩ := hd
             obtain ⟨ρ, hρ⟩ : ∃ ρ, a'.eval = ρ := ⟨_, rfl⟩
             have hcst : ∀ v, ρ (.const v) = v := fun v => (congrFun hρ (.const v)).symm
             have v12 : ρ (.tmp 134) = .slice (some ⟨bF, oF, none⟩) f.lots.length cv := (congrFun hρ (.tmp 134)).symm.trans ((HF.out.ev 12 rfl d12).trans (HVA.out 12 _ (by rw [HVV.out]; rfl) d12))
             have v13 : ρ (.tmp 135) = .int .i64 (k : Nat) := (congrFun hρ (.tmp 135)).symm.trans ((HF.out.ev 13 rfl d13).trans (HVA.out 13 _ (by rw [HVV.out]; rfl) d13))
             rw [if_pos (by simp [Region.wanted])]
             unfold Oper.wpIn
             refine ⟨fun _ _ => trivial, ?_⟩
             rw [Oper.semAt_plain _ _ _ (by intro c hc; cases hc)]
             rw [hρ]
             clear hρ
             go_simp
             exact hK.out _ _ ⟨HVA.out.set (i := 14) (by rw [HVV.out]; rfl), htw, (by exact h9)⟩
            focus
             obtain ⟨d14, _⟩ := hd
             obtain ⟨ρ, hρ⟩ : ∃ ρ, a'.eval = ρ := ⟨_, rfl⟩
             have hcst : ∀ v, ρ (.const v) = v := fun v => (congrFun hρ (.const v)).symm
             have v14 : ρ (.tmp 136) = .pointer (some ⟨bF, oF + k, none⟩) := (congrFun hρ (.tmp 136)).symm.trans ((HF.out.ev 14 rfl d14).trans (HVA.out 14 _ (by rw [HVV.out]; rfl) d14))
             have m0 := HPF.out _ htw
             rw [if_pos (by simp [Region.wanted])]
             unfold Oper.wpIn
             refine ⟨fun _ _ => trivial, ?_⟩
             rw [Oper.semAt_plain _ _ _ (by intro c hc; cases hc)]
             rw [hρ]
             clear hρ
             go_simp
             exact hK.out _ _ ⟨HVA.out.set (i := 15) (by rw [HVV.out]; rfl), htw, (by exact h9)⟩
            focus
             clear hd
             obtain ⟨ρ, hρ⟩ : ∃ ρ, a'.eval = ρ := ⟨_, rfl⟩
             have hcst : ∀ v, ρ (.const v) = v := fun v => (congrFun hρ (.const v)).symm
             have l12 : ρ (.tmp 12) = .pointer (some ⟨zW, 0, none⟩) := (congrFun hρ (.tmp 12)).symm.trans (HF.out.lo 12 rfl)
             rw [if_pos (by simp [Region.wanted])]
             unfold Oper.wpIn
             refine ⟨fun _ _ => trivial, ?_⟩
             rw [Oper.semAt_plain _ _ _ (by intro c hc; cases hc)]
             rw [hρ]
             clear hρ
             go_simp
             exact hK.out _ _ ⟨HVA.out.set (i := 16) (by rw [HVV.out]; rfl), htw, (by exact h9)⟩
            focus
             obtain ⟨d16, _⟩ := hd
             obtain ⟨ρ, hρ⟩ : ∃ ρ, a'.eval = ρ := ⟨_, rfl⟩
             have hcst : ∀ v, ρ (.const v) = v := fun v => (congrFun hρ (.const v)).symm
             have v16 : ρ (.tmp 138) = .pointer (some ⟨zW, 2, none⟩) := (congrFun hρ (.tmp 138)).symm.trans ((HF.out.ev 16 rfl d16).trans (HVA.out 16 _ (by rw [HVV.out]; rfl) d16))
             have m0 := (HXT.out _ (HT8.out.trans htw)).2 2
             simp at m0
             rw [if_pos (by simp [Region.wanted])]
             unfold Oper.wpIn
             refine ⟨fun _ _ => trivial, ?_⟩
             rw [Oper.semAt_plain _ _ _ (by intro c hc; cases hc)]
             rw [hρ]
             clear hρ
             go_simp
             exact hK.out _ _ ⟨HVA.out.set (i := 17) (by rw [HVV.out]; rfl), htw, (by exact h9)⟩
            focus
             clear hd
             obtain ⟨ρ, hρ⟩ : ∃ ρ, a'.eval = ρ := ⟨_, rfl⟩
             have hcst : ∀ v, ρ (.const v) = v := fun v => (congrFun hρ (.const v)).symm
             have l15 : ρ (.tmp 15) = .int .i64 (y : Nat) := (congrFun hρ (.tmp 15)).symm.trans (HF.out.lo 15 rfl)
             rw [if_pos (by simp [Region.wanted])]
             unfold Oper.wpIn
             refine ⟨fun _ _ => trivial, ?_⟩
             rw [Oper.semAt_plain _ _ _ (by intro c hc; cases hc)]
             rw [hρ]
             clear hρ
             go_simp
             exact hK.out _ _ ⟨HVA.out.set (i := 18) (by rw [HVV.out]; rfl), htw, (by exact h9)⟩
            focus
             obtain ⟨d17, d18, _⟩ := hd
             obtain ⟨ρ, hρ⟩ : ∃ ρ, a'.eval = ρ := ⟨_, rfl⟩
             have hcst : ∀ v, ρ (.const v) = v := fun v => (congrFun hρ (.const v)).symm
             have v17 : ρ (.tmp 139) = .slice (some ⟨bp, op, none⟩) (lotAt f.lots k).perm.length cp := (congrFun hρ (.tmp 139)).symm.trans ((HF.out.ev 17 rfl d17).trans (HVA.out 17 _ (by rw [HVV.out]; rfl) d17))
             have v18 : ρ (.tmp 140) = .int .i64 (y : Nat) := (congrFun hρ (.tmp 140)).symm.trans ((HF.out.ev 18 rfl d18).trans (HVA.out 18 _ (by rw [HVV.out]; rfl) d18))
             rw [if_pos (by simp [Region.wanted])]
             unfold Oper.wpIn
             refine ⟨fun _ _ => trivial, ?_⟩
             rw [Oper.semAt_plain _ _ _ (by intro c hc; cases hc)]
             rw [hρ]
             clear hρ
             go_simp
             exact hK.out _ _ ⟨HVA.out.set (i := 19) (by rw [HVV.out]; rfl), htw, (by exact h9)⟩
            focus
             obtain ⟨d19, _⟩ := hd
             obtain ⟨ρ, hρ⟩ : ∃ ρ, a'.eval = ρ := ⟨_, rfl⟩
             have hcst : ∀ v, ρ (.const v) = v := fun v => (congrFun hρ (.const v)).symm
             have v19 : ρ (.tmp 141) = .pointer (some ⟨bp, op + y, none⟩) := (congrFun hρ (.tmp 141)).symm.trans ((HF.out.ev 19 rfl d19).trans (HVA.out 19 _ (by rw [HVV.out]; rfl) d19))
             have m0 := HCP.out _ (HT8.out.trans htw)
             rw [if_pos (by simp [Region.wanted])]
             unfold Oper.wpIn
             refine ⟨fun _ _ => trivial, ?_⟩
             rw [Oper.semAt_plain _ _ _ (by intro c hc; cases hc)]
             rw [hρ]
             clear hρ
             go_simp
             exact hK.out _ _ ⟨HVA.out.set (i := 20) (by rw [HVV.out]; rfl), htw, (by exact h9)⟩
            focus
             obtain ⟨d15, d20, _⟩ := hd
             obtain ⟨ρ, hρ⟩ : ∃ ρ, a'.eval = ρ := ⟨_, rfl⟩
             have hcst : ∀ v, ρ (.const v) = v := fun v => (congrFun hρ (.const v)).symm
             have v15 : ρ (.tmp 137) = .int .i64 (beforeI f k) := (congrFun hρ (.tmp 137)).symm.trans ((HF.out.ev 15 rfl d15).trans (HVA.out 15 _ (by rw [HVV.out]; rfl) d15))
             have v20 : ρ (.tmp 142) = .int .i64 pi := (congrFun hρ (.tmp 142)).symm.trans ((HF.out.ev 20 rfl d20).trans (HVA.out 20 _ (by rw [HVV.out]; rfl) d20))
             have hwj : IntKind.i64.wrap (beforeI f k + pi) = beforeI f k + pi := IntWalk.i64_in _ (by omega)
             rw [if_pos (by simp [Region.wanted])]
             unfold Oper.wpIn
             refine ⟨fun _ _ => trivial, ?_⟩
             rw [Oper.semAt_plain _ _ _ (by intro c hc; cases hc)]
             rw [hρ]
             clear hρ
             go_simp
             exact hK.out _ _ ⟨HVA.out.set (i := 21) (by rw [HVV.out]; rfl), htw, (by exact h9)⟩
            focus
             obtain ⟨d8, d21, _⟩ := hd
             have v8 : a'.eval (.tmp 130) = .map (some R) := (HF.out.ev 8 rfl d8).trans (HVA.out 8 _ (by rw [HVV.out]; rfl) d8)
             have v21 : a'.eval (.tmp 143) = .int .i64 (beforeI f k + pi) := (HF.out.ev 21 rfl d21).trans (HVA.out 21 _ (by rw [HVV.out]; rfl) d21)
             rw [if_pos (by simp [Region.wanted])]
             have e23 : L 23 = false := by
              cases e : L 23 with
              | false => rfl
              | true => have := h9.2.2 e; rw [HLI.out] at this; cases this
             have hl1 := h9.1 e23
             have hrun := run_lookup_ints (P := Try.prog) Try.underlying65 Try.underlying3 (Try.zeroValue89 w') hl1 (beforeI f k + pi) false
             have hv : (if false = true then Value.tuple #[(alook lS (beforeI f k + pi)).getD (.int .u64 0), .bool (alook lS (beforeI f k + pi)).isSome] else (alook lS (beforeI f k + pi)).getD (.int .u64 0)) = .int .u64 yo := by rw [if_neg (by decide), HS2.out, HPU.out]; unfold maskV; rw [HYO.out]
             rw [hv] at hrun
             refine wpIn_of_lookup rfl v8 v21 hrun ?_
             exact hK.out _ _ ⟨HVA.out.set (i := 22) (by rw [HVV.out]; rfl), htw, h9.1, h9.2.1, (fun _ => rfl)⟩
            focus
             obtain ⟨d3, d4, d22, d0, d1, d2, _, _, d5, d6, d7, d8, d9, d10, d11, d12, d13, d14, d15, d16, d17, d18, d19, d20, d21, _, _⟩ := hd
             have v3 : a'.eval (.tmp 125) = .map (some R) := (HF.out.ev 3 rfl d3).trans (HVA.out 3 _ (by rw [HVV.out]; rfl) d3)
             have v4 : a'.eval (.tmp 126) = .int .i64 sp := (HF.out.ev 4 rfl d4).trans (HVA.out 4 _ (by rw [HVV.out]; rfl) d4)
             have v22 : a'.eval (.tmp 144) = .int .u64 yo := (HF.out.ev 22 rfl d22).trans (HVA.out 22 _ (by rw [HVV.out]; rfl) d22)
             rw [if_pos (by simp [Region.wanted])]
             obtain ⟨w5, y1, y2, y3, y4⟩ := run_update_ints (P := Try.prog) (T := 65) Try.underlying65 Try.underlying3 (h9.1 HLI.out) sp (.int .u64 yo)
             refine wpIn_of_update rfl v3 v4 v22 y1 ?_
             exact hK.out undef _ ⟨HVA.out.free (i := 23) (by rw [HVV.out]; rfl) _, htw.trans (Turned.of_grown y3 (fun k e => by simpa using e.symm)), (fun e => by cases e), (fun _ => y2), (fun _ => d22)⟩
           focus
            intro L w' xs hL hJ
            obtain ⟨hv, htw, h9⟩ := hJ
            have e0 : xs 0 = .pointer (some ⟨q, 0, none⟩) := hv 0 _ (by rw [HVV.out]; rfl) (hL 0 (by decide))
            have e1 : xs 1 = .pointer (some ⟨q, 0, none⟩) := hv 1 _ (by rw [HVV.out]; rfl) (hL 1 (by decide))
            have e2 : xs 2 = .pointer (some ⟨q, 3, none⟩) := hv 2 _ (by rw [HVV.out]; rfl) (hL 2 (by decide))
            have e3 : xs 3 = .map (some R) := hv 3 _ (by rw [HVV.out]; rfl) (hL 3 (by decide))
            have e4 : xs 4 = .int .i64 sp := hv 4 _ (by rw [HVV.out]; rfl) (hL 4 (by decide))
            have e5 : xs 5 = .pointer (some ⟨q, 0, none⟩) := hv 5 _ (by rw [HVV.out]; rfl) (hL 5 (by decide))
            have e6 : xs 6 = .pointer (some ⟨q, 0, none⟩) := hv 6 _ (by rw [HVV.out]; rfl) (hL 6 (by decide))
            have e7 : xs 7 = .pointer (some ⟨q, 3, none⟩) := hv 7 _ (by rw [HVV.out]; rfl) (hL 7 (by decide))
            have e8 : xs 8 = .map (some R) := hv 8 _ (by rw [HVV.out]; rfl) (hL 8 (by decide))
            have e9 : xs 9 = .pointer (some ⟨q, 0, none⟩) := hv 9 _ (by rw [HVV.out]; rfl) (hL 9 (by decide))
            have e10 : xs 10 = .pointer (some ⟨q, 0, none⟩) := hv 10 _ (by rw [HVV.out]; rfl) (hL 10 (by decide))
            have e11 : xs 11 = .pointer (some ⟨q, 1, none⟩) := hv 11 _ (by rw [HVV.out]; rfl) (hL 11 (by decide))
            have e12 : xs 12 = .slice (some ⟨bF, oF, none⟩) f.lots.length cv := hv 12 _ (by rw [HVV.out]; rfl) (hL 12 (by decide))
            have e13 : xs 13 = .int .i64 (k : Nat) := hv 13 _ (by rw [HVV.out]; rfl) (hL 13 (by decide))
            have e14 : xs 14 = .pointer (some ⟨bF, oF + k, none⟩) := hv 14 _ (by rw [HVV.out]; rfl) (hL 14 (by decide))
            have e15 : xs 15 = .int .i64 (beforeI f k) := hv 15 _ (by rw [HVV.out]; rfl) (hL 15 (by decide))
            have e16 : xs 16 = .pointer (some ⟨zW, 2, none⟩) := hv 16 _ (by rw [HVV.out]; rfl) (hL 16 (by decide))
            have e17 : xs 17 = .slice (some ⟨bp, op, none⟩) (lotAt f.lots k).perm.length cp := hv 17 _ (by rw [HVV.out]; rfl) (hL 17 (by decide))
            have e18 : xs 18 = .int .i64 (y : Nat) := hv 18 _ (by rw [HVV.out]; rfl) (hL 18 (by decide))
            have e19 : xs 19 = .pointer (some ⟨bp, op + y, none⟩) := hv 19 _ (by rw [HVV.out]; rfl) (hL 19 (by decide))
            have e20 : xs 20 = .int .i64 pi := hv 20 _ (by rw [HVV.out]; rfl) (hL 20 (by decide))
            have e21 : xs 21 = .int .i64 (beforeI f k + pi) := hv 21 _ (by rw [HVV.out]; rfl) (hL 21 (by decide))
            have e22 : xs 22 = .int .u64 yo := hv 22 _ (by rw [HVV.out]; rfl) (hL 22 (by decide))
            simp only [putGo, Act.put, List.setIfInBounds_toArray, List.set_cons_zero, List.set_cons_succ, e0, e1, e2, e3, e4, e5, e6, e7, e8, e9, e10, e11, e12, e13, e14, e15, e16, e17, e18, e19, e20, e21, e22]
            clear hv e0 e1 e2 e3 e4 e5 e6 e7 e8 e9 e10 e11 e12 e13 e14 e15 e16 e17 e18 e19 e20 e21 e22
           have hX := h9.2.1 (hL 23 (by decide))
           have HX9 := Lib.hid hX
           have HT9 := Lib.hid (HT8.out.trans htw)
           clear hX h9 htw hL x8
           gi_wp2
           go_roundw
           case rel =>
            refine ⟨y + 1, by omega, by go_num, HT9.out, ?_⟩
            have h := HX9.out
            rw [← HYO.out] at h
            have h2 := MaskMap.put h HS2.out
            rw [putM_twice] at h2
            rw [← HSL.out]
            exact h2
           case measure => simp [intOf]; omega
         ·obtain rfl : y = j := by omega
          gi_wp2
          have HN5 := HNM4.out _ _ HT.out HMP.out
          have ht5 : Turned (fun k => k = R ∨ st ≤ k) W2 wr := (Turned.of_below (X := fun k => k = R ∨ st ≤ k) (HB3.out)).trans (HT.out.mono (fun k _ e => .inl e))
          refine ⟨ht5, _, HN5, ?_, HBT.out _ HT.out⟩
          rw [HKI.out]
          have h := lotM_ok hkl HM.out
          rw [HMM.out] at h
          exact h
     case hdone =>
      rintro d st W hd hds hsW ⟨M, hn, hm, _⟩ hk
      have HD := Lib.hid hk
      have HNX := Lib.hid hn
      have HMX := Lib.hid hm
      have r1 := hn.ptr.cell
      clear hn hm hk
      go_wp2
      refine ⟨by simp, .inl ⟨_, _, rfl, run_takeDeferred HD.out, ?_⟩⟩
      have hts : Turned (fun k => k = d) W (W.putObj d (.deferred none)) := Turned.putObj _ _ _ rfl
      have hn' := HNX.out.turned hts (fun k hk e => by have := HOV.out k hk; omega)
      refine ⟨.pointer (some ⟨q, 0, none⟩), by simp [results, Try.results32, go_sem], q, rfl, ?_, hn'.hb⟩
      subst E
      exact hn'.lots rfl (by have := HMX.out; rw [Nat.sub_self] at this; exact this)
end Go.Proofs.Yteiaeaciaglmgaa
set_option linter.unusedVariables false
set_option linter.unusedSimpArgs false
namespace Go.Proofs.Yteiaeaciaglmgaa
open Go.RowKit
/-- does a spot lead to an end? -/
def leadE (f : Flow) (s e : Int) : Bool := hasB (endsL f) e && rAt f 0 s e
theorem and_one64v (n : Nat) (hn : n < 18446744073709551616) (k : Nat) : (bits BinOp.and IntKind.u64 ((n : Int) / 2 ^ k) 1 == 1) = n.testBit k := by
 have e : (n : Int) / 2 ^ k = ((n / 2 ^ k : Nat) : Int) := by simp
 have h1 : n / 2 ^ k < 18446744073709551616 := Nat.lt_of_le_of_lt (Nat.div_le_self _ _) hn
 rw [e, show (1 : Int) = ((1 : Nat) : Int) from rfl, u64_and_nat _ _ h1 (by omega)]
 rw [Nat.testBit_eq_decide_div_mod_eq, Nat.and_one_is_mod, Bool.eq_iff_iff]
 simp only [beq_iff_eq, decide_eq_true_eq]
 omega
set_option maxHeartbeats 4000000 in
set_option maxRecDepth 100000 in
/-- explain.lots.leads -/
theorem leads_any (C D : Nat) (w : World) (q : Nat) (vl : Value) (f : Flow) (s e : Int) (h : LotsAt C D w q vl f) (h0 : checkE f = 0) :
  Calls Try.prog 33 #[.pointer (some ⟨q, 0, none⟩), .int .i64 s, .int .i64 e] w fun x w' => x = .returned (.bool (leadE f s e)) ∧ w' = w := by
 obtain ⟨vF, A, R, M, h1, h2, h3, h4, h5, h6, ⟨lA, hA1, hA2⟩, ⟨lR, hR1, hR2⟩, hm⟩ := h.lay
 have HA := Lib.hid hA1
 have HR := Lib.hid hR1
 have HR2 := Lib.hid hR2
 have q2 := h5.cell 2
 have q3 := h5.cell 3
 simp at q2 q3
 have hl := hA2 e
 rw [List.take_of_length_le (Nat.le_refl _)] at hl
 have HLE : Hid (leadE f s e = (hasB (endsL f) e && rAt f 0 s e)) := Lib.hid rfl
 obtain ⟨LE, hLE⟩ : ∃ x, leadE f s e = x := ⟨_, rfl⟩
 rw [hLE] at HLE ⊢
 have HZ := Lib.hid (Try.zeroValue3 w)
 have HZ2 := Lib.hid (Try.zeroValue89 w)
 cases hb : hasB (endsL f) e
 ·rw [hb, if_neg (by decide)] at hl
  rw [hb, Bool.false_and] at HLE
  have HL := Lib.hid hl
  clear hl hA2 hR2 hm h5 h6 hA1 hR1 hb hLE
  go_enter Try.func33, Try.ntmps33
  go_wp2_with (at_lookup; refine wpList_lookup_ints rfl _ _ _ rfl Try.underlying62 Try.underlying3 HZ.out rfl HA.out rfl ?_; rw [HL.out])
  go_ret
  exact ⟨by rw [HLE.out]; rfl, rfl⟩
 ·rw [hb, if_pos rfl] at hl
  rw [hb, Bool.true_and] at HLE
  have hi := nth_idx (hasB_iff.1 hb)
  have h64 := ends_64 h0
  obtain ⟨j, hj⟩ : ∃ j, (endsL f).idxOf e = j := ⟨_, rfl⟩
  rw [hj] at hl hi
  have HL := Lib.hid hl
  have hj64 : j ≤ 64 := by omega
  have hbit := (hm s).2 j hi.1
  rw [hi.2] at hbit
  have hand := and_one64v (M s) (hm s).1 j
  rw [hbit, ← HLE.out] at hand
  obtain ⟨mo, hmo⟩ : ∃ x : Int, ((M s : Nat) : Int) = x := ⟨_, rfl⟩
  rw [hmo] at hand
  have HMO : Hid (maskV (M s) = .int .u64 mo) := Lib.hid (by unfold maskV; rw [hmo])
  clear hl hA2 hR2 hm h5 h6 hA1 hR1 hb hLE hbit hi hj hmo h64
  go_enter Try.func33, Try.ntmps33
  go_wp2_with (at_lookup; first | (refine wpList_lookup_ints rfl _ _ true rfl Try.underlying62 Try.underlying3 HZ.out rfl HA.out rfl ?_; rw [HL.out]) | (refine wpList_lookup_ints rfl _ _ false rfl Try.underlying65 Try.underlying3 HZ2.out rfl HR.out rfl ?_; rw [HR2.out, HMO.out]))
  go_ret
  exact ⟨rfl, rfl⟩
end Go.Proofs.Yteiaeaciaglmgaa
