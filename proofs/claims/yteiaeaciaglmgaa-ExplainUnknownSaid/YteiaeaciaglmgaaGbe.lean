/- Layers EX13 EX14 EX15 EX16 EX17 EX18 EX19 EX20 EX21 EX22 EX23 EX24 EX25 EX26 EX27 EX28 EX29 EX30 EX31 EX32: the walks and the plain laws under the last text, merged and cut to what it uses; nothing is assumed. -/
import Derived.Test.YteiaeaciaglmgaaGbd
set_option linter.unusedVariables false
set_option linter.unusedSimpArgs false
namespace Go.Proofs.Yteiaeaciaglmgaa
open Go.RowKit
theorem free_le (part : List Int) : ∀ i, freeK part i ≤ i
 | 0 => Nat.le_refl _
 | i + 1 => by
  have := free_le part i
  have e : freeK part (i + 1) = if hasB part (i : Int) then freeK part i else freeK part i + 1 := rfl
  by_cases hh : hasB part (i : Int) = true
  ·rw [e, if_pos hh]; omega
  ·rw [e, if_neg hh]; omega
set_option maxHeartbeats 8000000 in
set_option maxRecDepth 100000 in
/-- each -/
theorem each_any (E : EnvW) (hE : E.Ok) (K : Client E) (m : Nat) (w : List (List Int)) (part : List Int) (hc : checkE E.f = 0) (hso : StOk E.f w part) (hk : w.length < E.f.lots.length) (hp : part.length < (lotAt E.f.lots w.length).ins.length)
  (hdec : ∀ i : Nat, i < (lotAt E.f.lots w.length).ins.length → hasB part (i : Int) = false → DecideAt E K m w (part ++ [(i : Int)])) (t : K.T) (s cy ct ci cf cl : Nat) (hs : E.C ≤ s) (hcs : (E.C ≤ cy ∧ cy < s) ∧ (E.C ≤ ct ∧ ct < s) ∧ (E.C ≤ ci ∧ ci < s) ∧ (E.C ≤ cf ∧ cf < s) ∧ (E.C ≤ cl ∧ cl < s))
  (hXt : ∀ q, K.X t q → E.Free q ∧ q < s ∧ q ≠ cy ∧ q ≠ ct ∧ q ≠ ci ∧ q ≠ cf ∧ q ≠ cl) (hX0 : ∀ q, K.X0 q → K.X t q) : EachC E K m w part s cy ct ci cf cl t := by
 intro W1 rf r1 r2 S R tk Z hrf hWS hsW hW0 hS hkS hkR hkZ hrd hRA hX hnx
 obtain ⟨W0, hW0s, hW0t, v, htk, hfr⟩ := hW0
 obtain ⟨a, c, pv, hy1, hy2⟩ := hfr.cy
 have h1 := hE.o1
 have h2 := hE.o2
 have h3 := hE.o3
 have x1 := hE.x1
 have x3 := hE.x3
 have HNM : Hid (E.B ≤ E.cp ∧ E.cp < E.C0 ∧ E.C0 ≤ E.D0 ∧ E.D0 ≤ E.bm ∧ E.bm < E.C ∧ E.C ≤ s ∧ s ≤ W1.heap.size) := Lib.hid ⟨h1, h2, h3, x3.1, x3.2, hs, hsW⟩
 have HCS := Lib.hid hcs
 have hsl := htk.slice
 have HALL : Hid (∀ W', Turned (fun q => q = E.bm ∨ K.X0 q ∨ s ≤ q) W1 W' → Taken E (K.X t) W' v part ∧ CellsN W' cy #[.slice a (lotAt E.f.lots w.length).ins.length c, .bool false, pv] ∧ IsInts E.B W' (.slice a (lotAt E.f.lots w.length).ins.length c) (lotAt E.f.lots w.length).ins ∧ EachF E w part v cy ct ci cf cl W') := Lib.hid (fun W' ht => by
  have h : Turned (fun q => q = E.bm ∨ K.X t q) W0 W' := (hW0t.mono (fun q _ e => .inr e)).transE ht (fun q hq e => by
   rcases e with e | e | e
   ·exact .inl e
   ·exact .inr (hX0 q e)
   ·omega)
  have hn : ∀ q, (q = E.bm ∨ K.X t q) → E.B ≤ q ∧ q ≠ cy ∧ q ≠ ct ∧ q ≠ ci ∧ q ≠ cf ∧ q ≠ cl := fun q e => by
   rcases e with e | e
   ·omega
   ·obtain ⟨g1, g2⟩ := hXt q e
    unfold EnvW.Free at g1
    omega
  refine ⟨htk.turned hE h (fun q e => ?_), hy1.turned h (fun e => (hn _ e).2.1 rfl), hy2.below (h.below (by omega) (fun q hq e => by have := (hn q e).1; omega)) (Nat.le_refl _), hfr.turned h (by omega) hn⟩
  rcases e with e | e
  ·exact .inl (by omega)
  ·exact .inr (.inl e))
 have HRDY := Lib.hid hrd
 have HKS := Lib.hid hkS
 have HKR := Lib.hid hkR
 have HKZ := Lib.hid hkZ
 have HSP := Lib.hid (fun (i : Nat) (hh : hasB part (i : Int) = false) => posS_more hc hso hk hp (x := (i : Int)) (by omega) hh)
 have HX0F : Hid (∀ q, K.X0 q → E.Free q ∧ q < s) := Lib.hid (fun q e => ⟨(hXt q (hX0 q e)).1, (hXt q (hX0 q e)).2.1⟩)
 -- what decide does for one place, by then
 obtain ⟨G, hG⟩ : ∃ G : Nat → Nat → Bool, (fun (j i : Nat) => K.res m (tk j) (settleS E.f w (part ++ [(i : Int)])).1 (settleS E.f w (part ++ [(i : Int)])).2) = G := ⟨_, rfl⟩
 have HDEC : Hid (∀ (i j : Nat) (w2 : World) (v2 : Value) (B : Nat), i < (lotAt E.f.lots w.length).ins.length → hasB part (i : Int) = false → freeK part i = j → s ≤ w2.heap.size → W1.heap.size ≤ B → WalkS E w (part ++ [(i : Int)]) w2 → R j w2 → OwnInts B w2 v2 (part ++ [(i : Int)]) →
   Calls Try.prog 63 #[.int .i64 (w.length : Int), v2, .pointer (some ⟨E.cx, 0, none⟩), .pointer (some ⟨E.cp, 0, none⟩), .pointer (some ⟨E.co, 0, none⟩), .pointer (some ⟨E.cm, 0, none⟩), .pointer (some ⟨E.cd, 0, none⟩)] w2 fun e W' =>
    e = .returned (.bool (G j i)) ∧ WalkS E w (part ++ [(i : Int)]) W' ∧ Turned (fun q => q = E.bm ∨ K.X0 q ∨ s ≤ q) w2 W' ∧ SZ (G j i) (S (j + 1)) Z W') := Lib.hid (fun i j w2 v2 B hi hh hfj hs2 hB hw2 hr2 ho => by
  have hx2 : ∀ q, K.X (tk j) q → E.Free q ∧ q < w2.heap.size := fun q e => by
   rcases hX j q e with e | e
   ·exact ⟨(hXt q (hX0 q e)).1, by have := (hXt q (hX0 q e)).2.1; omega⟩
   ·refine ⟨.inr (by omega), ?_⟩
    obtain ⟨a2, n2, c2, e2⟩ := ho.form'
    subst e2
    obtain ⟨b, o, e3, e4, _⟩ := ho.at (k := part.length) (by simp)
    have := (ho.ltX b (by rw [e3]; rfl))
    omega
  refine (hdec i hi hh w2 v2 (tk j) hw2 ?_ (hRA j w2 hr2) hx2).mono ?_
  ·obtain ⟨a2, n2, c2, e2⟩ := ho.form'
   subst e2
   obtain ⟨b, o, e3, e4, _⟩ := ho.at (k := part.length) (by simp)
   subst e3 e4
   refine .inr ⟨b, o, c2, rfl, (ho.isX hB).mono (fun q hq => ⟨by omega, hq.2, fun e => ?_⟩)⟩
   rcases hX j q e with e | e
   ·have := (hXt q (hX0 q e)).2.1; omega
   ·omega
  ·rintro e W' ⟨he, g1, g2, g3⟩
   subst hG
   refine ⟨he, g1, g2.mono (fun q _ e => ?_), hnx j i w2 W' hi hh hfj hr2 g2 g3⟩
   rcases e with e | e
   ·exact .inl e
   ·rcases hX j q e with e | e
    ·exact .inr (.inl e)
    ·exact .inr (.inr e.1))
 rw [hG]
 clear hG hdec
 have h64 : beforeI E.f w.length + (lotAt E.f.lots w.length).ins.length ≤ 50000 := (before_bd hc (k := w.length + 1) (by omega)).2
 have h065 := (before_bd hc (k := w.length) (by omega)).1
 obtain ⟨bi, oi, c', ⟨a', hai, hcc1, hcc2, hai'⟩, hi1, hi64, hci⟩ := hy2
 obtain ⟨rfl, rfl⟩ : a = a' ∧ c = c' := by simpa using hai
 obtain rfl : a = some ⟨bi, oi, none⟩ := by rcases hai' with h | h; exact h; omega
 have HCL : Hid (∀ W' part', Turned (fun q => q = E.bm ∨ K.X0 q ∨ s ≤ q) W1 W' → WalkS E w part' W' →
   W'.cell? ⟨E.cm, 0, none⟩ = some (.func (.func 62) #[] #[.pointer (some ⟨E.co, 0, none⟩)]) ∧
   W'.cell? ⟨E.cd, 0, none⟩ = some (.func (.func 63) #[] #[.pointer (some ⟨E.cx, 0, none⟩), .pointer (some ⟨E.cp, 0, none⟩), .pointer (some ⟨E.co, 0, none⟩), .pointer (some ⟨E.cm, 0, none⟩), .pointer (some ⟨E.cd, 0, none⟩)]) ∧
   W'.cell? ⟨cy, 0, none⟩ = some (.slice (some ⟨bi, oi, none⟩) (lotAt E.f.lots w.length).ins.length c) ∧ W'.cell? ⟨bi, oi + part.length, none⟩ = some (.int .i64 (nth (lotAt E.f.lots w.length).ins part.length)) ∧
   W'.cell? ⟨ct, 0, none⟩ = some v ∧ W'.cell? ⟨ci, 0, none⟩ = some (.int .i64 (part.length : Int)) ∧ W'.cell? ⟨cf, 0, none⟩ = some (.int .i64 (beforeI E.f w.length)) ∧ W'.cell? ⟨cl, 0, none⟩ = some (.int .i64 (w.length : Int))) := Lib.hid (fun W' part' ht hw => by
  obtain ⟨g1, g2, g3, g4⟩ := HALL.out W' ht
  have k0 := g2.cell 0
  simp at k0
  obtain ⟨b2, o2, c2, ⟨a2, e2, _, _, e3⟩, _, _, g5⟩ := g3
  obtain ⟨rfl, rfl⟩ : bi = b2 ∧ oi = o2 := by
   simp only [Value.slice.injEq] at e2
   rcases e3 with e3 | e3
   ·rw [e3] at e2; simpa using e2.1
   ·omega
  exact ⟨hw.cm.cell, hw.cd.cell, k0, (g5 part.length hp).2, g4.ct.cell, g4.ci.cell, g4.cf.cell, g4.cl.cell⟩)
 obtain ⟨N, hN⟩ : ∃ N, (lotAt E.f.lots w.length).ins.length = N := ⟨_, rfl⟩
 obtain ⟨X, hXX⟩ : ∃ X, nth (lotAt E.f.lots w.length).ins part.length = X := ⟨_, rfl⟩
 obtain ⟨FB, hFB⟩ : ∃ X, beforeI E.f w.length = X := ⟨_, rfl⟩
 rw [hXX, hFB] at HSP
 rw [hN, hXX, hFB] at HCL
 rw [hN] at HDEC HRDY hp ⊢
 rw [hFB] at h64 h065
 rw [hN] at h64
 have HP := Lib.hid hp
 have HFL := Lib.hid (fun (p : Nat) (h : p < N) (hh : hasB part (p : Int) = false) => free_lt h hh)
 have HNO := Lib.hid (fun (p : Nat) (h : p < N) (hh : eachB G part (p + 1) = false) => each_no hh (show p + 1 ≤ N by omega))
 clear hai hai' hi1 hi64 hci hcc1 hcc2 hN hXX hFB hrd hkS hkR hkZ hp hfr hy1 hW0t hW0s htk hRA hX hnx hXt hX0 hso h1 h2 h3 x1 x3 hs hcs hsW
 have HS1 := Lib.hid hS
 have HW1 := Lib.hid hWS
 clear hS hWS hk
 obtain ⟨k1, k2, k3, k4, k5, k6, k7, k8⟩ := HCL.out W1 part (Turned.refl _ _) HW1.out
 rcases hrf with rfl | rfl
 ·go_enter Try.func64, Try.ntmps64
  go_upto_region 3 with fail
  go_loopw [10, 16] (fun j' i' wr => ∃ p : Nat, p ≤ N ∧ i' = .int .i64 (p : Nat) ∧ j' = .int .i64 (freeK part p : Nat) ∧ Turned (fun q => q = E.bm ∨ K.X0 q ∨ s ≤ q) W1 wr ∧ WalkS E w part wr ∧ S (freeK part p) wr ∧ eachB G part p = true) (fun _ i' _ => N - (intOf i').toNat)
  case atStart => exact ⟨0, by omega, rfl, rfl, Turned.refl _ _, HW1.out, HS1.out, rfl⟩
  case round =>
   obtain ⟨p, hpN, rfl, rfl, ht, hw, hS, he⟩ := hrel
   have HT := Lib.hid ht
   have HW := Lib.hid hw
   have HS := Lib.hid hS
   have HEB := Lib.hid he
   have HTK := Lib.hid (HALL.out wr ht).1.ints
   obtain ⟨k1, k2, k3, k4, k5, k6, k7, k8⟩ := HCL.out wr part ht hw
   clear ht hw hS he
   by_cases hpl : p < N
   ·obtain ⟨HB, hHB⟩ : ∃ x, hasB part (p : Int) = x := ⟨_, rfl⟩
    have HHB := Lib.hid hHB
    clear hHB
    cases HB
    ·have HJ : Hid (freeK part (p + 1) = freeK part p + 1) := Lib.hid (by simp [freeK, HHB.out])
     have HE1 : Hid (eachB G part (p + 1) = G (freeK part p) p) := Lib.hid (by simp [eachB, HHB.out, HEB.out])
     have HFJ := Lib.hid (HFL.out p hpl HHB.out)
     have HSM := Lib.hid (HSP.out p HHB.out)
     obtain ⟨j, hj⟩ : ∃ j, freeK part p = j := ⟨_, rfl⟩
     have HJB : Hid (j ≤ p) := Lib.hid (by rw [← hj]; exact free_le part p)
     rw [hj] at HJ HE1 HFJ HS ⊢
     obtain ⟨RB, hRB⟩ : ∃ x, G j p = x := ⟨_, rfl⟩
     have HRB := Lib.hid hRB
     have HNM' := Lib.hid (HNM.out.2.2.2.2.2.2)
     have HSZ : Hid (s ≤ wr.heap.size ∧ W1.heap.size ≤ wr.heap.size) := Lib.hid (by have := HT.out.size; have := HNM'.out; omega)
     rw [hRB] at HE1
     have HJE := Lib.hid hj
     clear hj hRB
     have hwj : IntKind.i64.wrap (FB + (p : Int)) = FB + (p : Int) := IntWalk.i64_in _ (by omega)
     go_upto_region 6 with (go_at_call 65; refine (scontains_any _ _ _ part _ HTK.out).mono ?_; rintro e w9 ⟨rfl, hw9⟩; rw [hw9]; clear hw9; rw [HHB.out])
     clear k1 k2 k3 k4 k5 k6 k7 k8
     go_upto_region 8 with (go_at_call 43; refine (HRDY.out j HFJ.out wr HS.out HW.out HSZ.out.1).mono ?_; rintro e W3 ⟨rfl, hr3, ht3⟩; have HR3 := Lib.hid hr3; have HT3 := Lib.hid ht3; clear hr3 ht3)
     have HT13 : Hid (Turned (fun q => q = E.bm ∨ K.X0 q ∨ s ≤ q) W1 W3) := Lib.hid (HT.out.trans (HT3.out.mono (fun q _ e => .inr (.inl e))))
     have HW3 : Hid (WalkS E w part W3) := Lib.hid (HW.out.turned hE HT3.out (fun q e => (HX0F.out q e).1))
     obtain ⟨k1, k2, k3, k4, k5, k6, k7, k8⟩ := HCL.out W3 part HT13.out HW3.out
     have hp := HP.out
     go_still_tail 9, (by kernel_rfl)
     change wpList _ _ _ _ _ W3.drew
     go_upto_region 9 with (go_at_call 62; refine (move_step W3.drew E.co E.bm E.n _ _ X (FB + (p : Int)) HW3.out.co HW3.out.mp (fun e => hE.ne.2.1 e.symm) HSM.out).mono ?_; rintro e W4 ⟨⟨vv, rfl⟩, hm4, ht4⟩; have HM4 := Lib.hid hm4; have HT4 := Lib.hid ht4; clear hm4 ht4)
     clear k1 k2 k3 k4 k5 k6 k7 k8
     have HT34 : Hid (Turned (fun q => q = E.bm) W3 W4) := Lib.hid ((show Turned (fun q => q = E.bm) W3 W3.drew from ⟨rfl, rfl, rfl, Nat.le_refl _, fun _ _ _ => rfl⟩).trans HT4.out)
     have HW4 : Hid (WalkS E w (part ++ [(p : Int)]) W4) := Lib.hid (HW3.out.moved hE (X := fun _ => False) (HT34.out.mono (fun q _ e => .inl e)) (fun q e => e.elim) HM4.out)
     have HR4 := Lib.hid (HKR.out j _ _ HR3.out HT34.out)
     have HT14 : Hid (Turned (fun q => q = E.bm ∨ K.X0 q ∨ s ≤ q) W1 W4) := Lib.hid (HT13.out.trans (HT34.out.mono (fun q _ e => .inl e)))
     have HSZ4 : Hid (s ≤ W4.heap.size ∧ W1.heap.size ≤ W4.heap.size) := Lib.hid (by have := HT14.out.size; have := HNM'.out; omega)
     have HCL4 : Hid (∀ w2, Below W4.heap.size W4 w2 → w2.cell? ⟨E.cd, 0, none⟩ = some (.func (.func 63) #[] #[.pointer (some ⟨E.cx, 0, none⟩), .pointer (some ⟨E.cp, 0, none⟩), .pointer (some ⟨E.co, 0, none⟩), .pointer (some ⟨E.cm, 0, none⟩), .pointer (some ⟨E.cd, 0, none⟩)]) ∧ w2.cell? ⟨cl, 0, none⟩ = some (.int .i64 (w.length : Int)) ∧ w2.cell? ⟨ct, 0, none⟩ = some v ∧ IsInts w2.heap.size w2 v part) := Lib.hid (fun w2 hb => by
      have ht2 := HT14.out.trans (Turned.of_below hb)
      obtain ⟨g1, g2, g3, g4, g5, g6, g7, g8⟩ := HCL.out w2 _ ht2 (HW4.out.ext hE hb)
      exact ⟨g2, g8, g5, (HALL.out w2 ht2).1.ints⟩)
     have HFO := Lib.hid (HALL.out W4 HT14.out).1.form
     have HDC : Hid (∀ w2 v2 B, Below W4.heap.size W4 w2 → W4.heap.size ≤ B → OwnInts B w2 v2 (part ++ [(p : Int)]) → Calls Try.prog 63 #[.int .i64 (w.length : Int), v2, .pointer (some ⟨E.cx, 0, none⟩), .pointer (some ⟨E.cp, 0, none⟩), .pointer (some ⟨E.co, 0, none⟩), .pointer (some ⟨E.cm, 0, none⟩), .pointer (some ⟨E.cd, 0, none⟩)] w2 fun e W' =>
       e = .returned (.bool RB) ∧ WalkS E w (part ++ [(p : Int)]) W' ∧ Turned (fun q => q = E.bm ∨ K.X0 q ∨ s ≤ q) W1 W' ∧ SZ RB (S (j + 1)) Z W') := Lib.hid (fun w2 v2 B hb hB ho => by
      refine (HDEC.out p j w2 v2 B hpl HHB.out HJE.out (by have := HSZ4.out; have := hb.size; omega) (by have := HSZ4.out; omega) (HW4.out.ext hE hb) (HKR.out j _ _ HR4.out (Turned.of_below hb)) ho).mono ?_
      rintro e W' ⟨g1, g2, g3, g4⟩
      rw [HRB.out] at g1 g4
      exact ⟨g1, g2, (HT14.out.trans (Turned.of_below hb)).trans g3, g4⟩)
     have HPN : Hid (part.length < 100000) := Lib.hid (by have := HP.out; omega)
     obtain ⟨V, hV⟩ : ∃ V : List (Option Value), V = [some (.func (.func 63) #[] #[.pointer (some ⟨E.cx, 0, none⟩), .pointer (some ⟨E.cp, 0, none⟩), .pointer (some ⟨E.co, 0, none⟩), .pointer (some ⟨E.cm, 0, none⟩), .pointer (some ⟨E.cd, 0, none⟩)]), some (.int .i64 (w.length : Int)), some (v), none, some (.int .i64 (p : Nat)), none, none, some (.bool RB), some (.bool RB)] := ⟨_, rfl⟩
     have HVV := Lib.hid hV
     clear hV
     refine wp_region_V [some 36, some 37, some 38, some 39, some 40, some 41, some 42, some 43, some 12] (fun L w' xs => ValsAt V L xs ∧ (ClA W4 part (p : Int) (L 3) (L 5) (L 6) (L 7) (xs 3) (xs 5) (xs 6) (fun W' => WalkS E w (part ++ [(p : Int)]) W' ∧ Turned (fun q => q = E.bm ∨ K.X0 q ∨ s ≤ q) W1 W' ∧ SZ RB (S (j + 1)) Z W') w' ∧ ((L 7 = true → L 0 = true ∧ L 1 = true ∧ L 6 = true) ∧ (L 6 = true → L 3 = true ∧ L 5 = true) ∧ (L 3 = true → L 2 = true)))) (by kernel_rfl) (by kernel_rfl) (by rfl) (by rfl) (by rfl) ?_ ?_ ?_
     focus
      exact fun xs => ⟨ValsAt.none _ _, (by exact ClA.start 1), ⟨(fun e => by cases e), (fun e => by cases e), (fun e => by cases e)⟩⟩
     focus
      refine ⟨?_, ?_, ?_, ?_, ?_, ?_, ?_, ?_, ?_, trivial⟩
      all_goals
       intro L a' w' xs hi hd hf hJ K hK
       obtain ⟨hv, hA, h9⟩ := hJ
       have HF := Lib.hid hf
       have HVA := Lib.hid hv
       have HLI := Lib.hid hi
       clear hf hv hi
      focus
       clear hd
       obtain ⟨ρ, hρ⟩ : ∃ ρ, a'.eval = ρ := ⟨_, rfl⟩
       have hcst : ∀ v, ρ (.const v) = v := fun v => (congrFun hρ (.const v)).symm
       have l6 : ρ (.tmp 6) = .pointer (some ⟨E.cd, 0, none⟩) := (congrFun hρ (.tmp 6)).symm.trans (HF.out.lo 6 rfl)
       have e7 : L 7 = false := by
        cases e : L 7 with
        | false => rfl
        | true => have := (h9.1 e).1; rw [HLI.out] at this; cases this
       obtain ⟨m0, m1, m2, m3⟩ := HCL4.out _ (hA.bel e7)
       rw [if_pos (by simp [Region.wanted])]
       unfold Oper.wp
       rw [hρ]
       clear hρ
       go_simp
       exact hK.out _ _ ⟨HVA.out.set (i := 0) (by rw [HVV.out]; rfl), (by simp only [updV_ne (xs := xs) (show (3 : Nat) ≠ 0 by decide), updV_ne (xs := xs) (show (5 : Nat) ≠ 0 by decide), updV_ne (xs := xs) (show (6 : Nat) ≠ 0 by decide)]; exact hA), (by exact ⟨fun e => ⟨rfl, (h9.1 e).2⟩, h9.2⟩)⟩
      focus
       clear hd
       obtain ⟨ρ, hρ⟩ : ∃ ρ, a'.eval = ρ := ⟨_, rfl⟩
       have hcst : ∀ v, ρ (.const v) = v := fun v => (congrFun hρ (.const v)).symm
       have l7 : ρ (.tmp 7) = .pointer (some ⟨cl, 0, none⟩) := (congrFun hρ (.tmp 7)).symm.trans (HF.out.lo 7 rfl)
       have e7 : L 7 = false := by
        cases e : L 7 with
        | false => rfl
        | true => have := (h9.1 e).2.1; rw [HLI.out] at this; cases this
       obtain ⟨m0, m1, m2, m3⟩ := HCL4.out _ (hA.bel e7)
       rw [if_pos (by simp [Region.wanted])]
       unfold Oper.wp
       rw [hρ]
       clear hρ
       go_simp
       exact hK.out _ _ ⟨HVA.out.set (i := 1) (by rw [HVV.out]; rfl), (by simp only [updV_ne (xs := xs) (show (3 : Nat) ≠ 1 by decide), updV_ne (xs := xs) (show (5 : Nat) ≠ 1 by decide), updV_ne (xs := xs) (show (6 : Nat) ≠ 1 by decide)]; exact hA), (by exact ⟨fun e => ⟨(h9.1 e).1, rfl, (h9.1 e).2.2⟩, h9.2⟩)⟩
      focus
       clear hd
       obtain ⟨ρ, hρ⟩ : ∃ ρ, a'.eval = ρ := ⟨_, rfl⟩
       have hcst : ∀ v, ρ (.const v) = v := fun v => (congrFun hρ (.const v)).symm
       have l2 : ρ (.tmp 2) = .pointer (some ⟨ct, 0, none⟩) := (congrFun hρ (.tmp 2)).symm.trans (HF.out.lo 2 rfl)
       have e3 : L 3 = false := by
        cases e : L 3 with
        | false => rfl
        | true => have := h9.2.2 e; rw [HLI.out] at this; cases this
       have e6 : L 6 = false := by
        cases e : L 6 with
        | false => rfl
        | true => have := (h9.2.1 e).1; rw [e3] at this; cases this
       have e7 : L 7 = false := by
        cases e : L 7 with
        | false => rfl
        | true => have := (h9.1 e).2.2; rw [e6] at this; cases this
       obtain ⟨m0, m1, m2, m3⟩ := HCL4.out _ (hA.bel e7)
       rw [if_pos (by simp [Region.wanted])]
       unfold Oper.wp
       rw [hρ]
       clear hρ
       go_simp
       exact hK.out _ _ ⟨HVA.out.set (i := 2) (by rw [HVV.out]; rfl), (by simp only [updV_ne (xs := xs) (show (3 : Nat) ≠ 2 by decide), updV_ne (xs := xs) (show (5 : Nat) ≠ 2 by decide), updV_ne (xs := xs) (show (6 : Nat) ≠ 2 by decide)]; exact hA), (by exact ⟨h9.1, h9.2.1, fun _ => rfl⟩)⟩
      focus
       obtain ⟨d2, _⟩ := hd
       obtain ⟨ρ, hρ⟩ : ∃ ρ, a'.eval = ρ := ⟨_, rfl⟩
       have hcst : ∀ v, ρ (.const v) = v := fun v => (congrFun hρ (.const v)).symm
       have hfun : ∀ k, ρ (.func k) = .func (.func k) #[] #[] := fun k => (congrFun hρ (.func k)).symm
       have v2 : ρ (.tmp 38) = v := (congrFun hρ (.tmp 38)).symm.trans ((HF.out.ev 2 rfl d2).trans (HVA.out 2 _ (by rw [HVV.out]; rfl) d2))
       have e6 : L 6 = false := by
        cases e : L 6 with
        | false => rfl
        | true => have := (h9.2.1 e).1; rw [HLI.out] at this; cases this
       have e7 : L 7 = false := by
        cases e : L 7 with
        | false => rfl
        | true => have := (h9.1 e).2.2; rw [e6] at this; cases this
       obtain ⟨m0, m1, m2, m3⟩ := HCL4.out _ (hA.bel e7)
       rw [if_pos (by simp [Region.wanted])]
       unfold Oper.wp
       rw [hρ]
       clear hρ
       go_simp
       go_at_call 57
       refine (clone_own _ _ _ part m3 HFO.out (Nat.le_refl _)).mono ?_
       rintro en w5' ⟨v5, rfl, ho5, hb5⟩
       exact hK.out _ _ ⟨HVA.out.free (i := 3) (by rw [HVV.out]; rfl) _, (by simp only [updV_ne (xs := xs) (show (5 : Nat) ≠ 3 by decide), updV_ne (xs := xs) (show (6 : Nat) ≠ 3 by decide), updV_self]; exact hA.sc e6 e7 ho5 hb5), (by exact ⟨h9.1, fun e => ⟨rfl, (h9.2.1 e).2⟩, fun _ => d2⟩)⟩
      focus
       clear hd
       obtain ⟨ρ, hρ⟩ : ∃ ρ, a'.eval = ρ := ⟨_, rfl⟩
       have hcst : ∀ v, ρ (.const v) = v := fun v => (congrFun hρ (.const v)).symm
       have l11 : ρ (.tmp 11) = .int .i64 (p : Nat) := (congrFun hρ (.tmp 11)).symm.trans (HF.out.lo 11 rfl)
       rw [if_pos (by simp [Region.wanted])]
       unfold Oper.wp
       rw [hρ]
       clear hρ
       go_simp
       exact hK.out _ _ ⟨HVA.out.set (i := 4) (by rw [HVV.out]; rfl), (by simp only [updV_ne (xs := xs) (show (3 : Nat) ≠ 4 by decide), updV_ne (xs := xs) (show (5 : Nat) ≠ 4 by decide), updV_ne (xs := xs) (show (6 : Nat) ≠ 4 by decide)]; exact hA), (by exact h9)⟩
      focus
       obtain ⟨d4, _⟩ := hd
       obtain ⟨ρ, hρ⟩ : ∃ ρ, a'.eval = ρ := ⟨_, rfl⟩
       have hcst : ∀ v, ρ (.const v) = v := fun v => (congrFun hρ (.const v)).symm
       have v4 : ρ (.tmp 40) = .int .i64 (p : Nat) := (congrFun hρ (.tmp 40)).symm.trans ((HF.out.ev 4 rfl d4).trans (HVA.out 4 _ (by rw [HVV.out]; rfl) d4))
       have e6 : L 6 = false := by
        cases e : L 6 with
        | false => rfl
        | true => have := (h9.2.1 e).2; rw [HLI.out] at this; cases this
       have e7 : L 7 = false := by
        cases e : L 7 with
        | false => rfl
        | true => have := (h9.1 e).2.2; rw [e6] at this; cases this
       rw [if_pos (by simp [Region.wanted])]
       unfold Oper.wp
       rw [hρ]
       clear hρ
       go_simp
       exact hK.out _ _ ⟨HVA.out.free (i := 5) (by rw [HVV.out]; rfl) _, (by simp only [updV_ne (xs := xs) (show (3 : Nat) ≠ 5 by decide), updV_ne (xs := xs) (show (6 : Nat) ≠ 5 by decide), updV_self]; exact hA.sb e6 e7 rfl), (by exact ⟨h9.1, fun e => ⟨(h9.2.1 e).1, rfl⟩, h9.2.2⟩)⟩
      focus
       obtain ⟨d3, d5, _, _⟩ := hd
       have v3 : a'.eval (.tmp 39) = xs 3 := HF.out.ev 3 rfl d3
       have v5 : a'.eval (.tmp 41) = xs 5 := HF.out.ev 5 rfl d5
       rw [if_pos (by simp [Region.wanted])]
       have e7 : L 7 = false := by
        cases e : L 7 with
        | false => rfl
        | true => have := (h9.1 e).2.2; rw [HLI.out] at this; cases this
       obtain ⟨g, y5, y6⟩ := hA.b d5 HLI.out e7
       obtain ⟨B7, y1, y2, y3⟩ := hA.c d3 HLI.out e7
       rw [y5] at v5
       have hsrc : Src w' 1 (.slice (some ⟨g, 0, none⟩) 1 1) [(p : Int)].length ([(p : Int)].map (Value.int .i64)) := src_one (y6.cell 0) rfl
       obtain ⟨v', w5, z1, z2, z3, z4⟩ := run_append_ints (ty := 25) y3 hsrc (by intro y hy; simp at hy; subst hy; unfold I64; omega) (by have := HPN.out; simp; omega) y2
       refine wp_of_append w' rfl v3 v5 z1 ?_
       exact hK.out _ _ ⟨HVA.out.free (i := 6) (by rw [HVV.out]; rfl) _, (by simp only [updV_ne (xs := xs) (show (3 : Nat) ≠ 6 by decide), updV_ne (xs := xs) (show (5 : Nat) ≠ 6 by decide), updV_self]; exact hA.sa d3 HLI.out e7 y1 (fun k e => Nat.le_trans y1 (y3.ltX k e).1) z2 z3), (by exact ⟨fun e => ⟨(h9.1 e).1, (h9.1 e).2.1, rfl⟩, fun _ => ⟨d3, d5⟩, h9.2.2⟩)⟩
      focus
       obtain ⟨d0, d1, d6, _, _⟩ := hd
       obtain ⟨ρ, hρ⟩ : ∃ ρ, a'.eval = ρ := ⟨_, rfl⟩
       have hcst : ∀ v, ρ (.const v) = v := fun v => (congrFun hρ (.const v)).symm
       have v0 : ρ (.tmp 36) = .func (.func 63) #[] #[.pointer (some ⟨E.cx, 0, none⟩), .pointer (some ⟨E.cp, 0, none⟩), .pointer (some ⟨E.co, 0, none⟩), .pointer (some ⟨E.cm, 0, none⟩), .pointer (some ⟨E.cd, 0, none⟩)] := (congrFun hρ (.tmp 36)).symm.trans ((HF.out.ev 0 rfl d0).trans (HVA.out 0 _ (by rw [HVV.out]; rfl) d0))
       have v1 : ρ (.tmp 37) = .int .i64 (w.length : Int) := (congrFun hρ (.tmp 37)).symm.trans ((HF.out.ev 1 rfl d1).trans (HVA.out 1 _ (by rw [HVV.out]; rfl) d1))
       have v6 : ρ (.tmp 42) = xs 6 := (congrFun hρ (.tmp 42)).symm.trans (HF.out.ev 6 rfl d6)
       rw [if_pos (by simp [Region.wanted])]
       unfold Oper.wp
       rw [hρ]
       clear hρ
       obtain ⟨B7, y1, y2⟩ := hA.a d6 HLI.out
       go_simp
       go_at_call 63
       refine (HDC.out _ _ _ (hA.bel HLI.out) y1 y2).mono ?_
       rintro en w5' ⟨rfl, hq5⟩
       exact hK.out _ _ ⟨HVA.out.set (i := 7) (by rw [HVV.out]; rfl), (by simp only [updV_ne (xs := xs) (show (3 : Nat) ≠ 7 by decide), updV_ne (xs := xs) (show (5 : Nat) ≠ 7 by decide), updV_ne (xs := xs) (show (6 : Nat) ≠ 7 by decide)]; exact ClA.sd HLI.out hq5), (by exact ⟨fun _ => ⟨d0, d1, d6⟩, h9.2⟩)⟩
      focus
       obtain ⟨d7, _, d0, d1, d2, d3, d4, d5, d6, _, _⟩ := hd
       obtain ⟨ρ, hρ⟩ : ∃ ρ, a'.eval = ρ := ⟨_, rfl⟩
       have hcst : ∀ v, ρ (.const v) = v := fun v => (congrFun hρ (.const v)).symm
       have v7 : ρ (.tmp 43) = .bool RB := (congrFun hρ (.tmp 43)).symm.trans ((HF.out.ev 7 rfl d7).trans (HVA.out 7 _ (by rw [HVV.out]; rfl) d7))
       rw [if_pos (by simp [Region.wanted])]
       unfold Oper.wp
       rw [hρ]
       clear hρ
       go_simp
       exact hK.out _ _ ⟨HVA.out.set (i := 8) (by rw [HVV.out]; rfl), (by simp only [updV_ne (xs := xs) (show (3 : Nat) ≠ 8 by decide), updV_ne (xs := xs) (show (5 : Nat) ≠ 8 by decide), updV_ne (xs := xs) (show (6 : Nat) ≠ 8 by decide)]; exact hA), (by exact h9)⟩
     focus
      intro L w' xs hL hJ
      obtain ⟨hv, hA, h9⟩ := hJ
      have e0 : xs 0 = .func (.func 63) #[] #[.pointer (some ⟨E.cx, 0, none⟩), .pointer (some ⟨E.cp, 0, none⟩), .pointer (some ⟨E.co, 0, none⟩), .pointer (some ⟨E.cm, 0, none⟩), .pointer (some ⟨E.cd, 0, none⟩)] := hv 0 _ (by rw [HVV.out]; rfl) (hL 0 (by decide))
      have e1 : xs 1 = .int .i64 (w.length : Int) := hv 1 _ (by rw [HVV.out]; rfl) (hL 1 (by decide))
      have e2 : xs 2 = v := hv 2 _ (by rw [HVV.out]; rfl) (hL 2 (by decide))
      have e4 : xs 4 = .int .i64 (p : Nat) := hv 4 _ (by rw [HVV.out]; rfl) (hL 4 (by decide))
      have e7 : xs 7 = .bool RB := hv 7 _ (by rw [HVV.out]; rfl) (hL 7 (by decide))
      have e8 : xs 8 = .bool RB := hv 8 _ (by rw [HVV.out]; rfl) (hL 8 (by decide))
      simp only [putGo, Act.put, List.setIfInBounds_toArray, List.set_cons_zero, List.set_cons_succ, e0, e1, e2, e4, e7, e8]
      clear hv e0 e1 e2 e4 e7 e8
     obtain ⟨hw5, ht5, hS5⟩ := hA.post (hL 7 (by decide))
     have HW5 := Lib.hid hw5
     have HT5 := Lib.hid ht5
     have HS5 := Lib.hid hS5
     clear hA h9 hw5 ht5 hS5 hL
     obtain ⟨W5, hW5⟩ : ∃ x, w' = x := ⟨_, rfl⟩
     rw [hW5] at HW5 HT5 HS5 ⊢
     clear hW5
     obtain ⟨k1, k2, k3, k4, k5, k6, k7, k8⟩ := HCL.out W5 _ HT5.out HW5.out
     go_wp2
     have hp := HP.out
     go_still_tail 9, (by kernel_rfl)
     change wpList _ _ _ _ _ W5.drew
     cases RB
     ·go_wp2_with (go_at_call 62; refine (move_step W5.drew E.co E.bm E.n _ _ (FB + (p : Int)) X HW5.out.co HW5.out.mp (fun e => hE.ne.2.1 e.symm) HSM.out.back).mono ?_; rintro e W6 ⟨⟨vv, rfl⟩, hm6, ht6⟩; have HM6 := Lib.hid hm6; have HT6 := Lib.hid ht6; clear hm6 ht6)
      go_ret
      have ht56 : Turned (fun q => q = E.bm) W5 W6 := (show Turned (fun q => q = E.bm) W5 W5.drew from ⟨rfl, rfl, rfl, Nat.le_refl _, fun _ _ _ => rfl⟩).trans HT6.out
      rw [HNO.out p hpl HE1.out]
      exact ⟨rfl, HW5.out.moved hE (X := fun _ => False) (ht56.mono (fun q _ e => .inl e)) (fun q e => e.elim) HM6.out, HT5.out.trans (ht56.mono (fun q _ e => .inl e)), ⟨fun e => (by cases e), fun _ => HKZ.out _ _ (HS5.out.2 rfl) ht56⟩⟩
     ·go_wp2_with (go_at_call 62; refine (move_step W5.drew E.co E.bm E.n _ _ (FB + (p : Int)) X HW5.out.co HW5.out.mp (fun e => hE.ne.2.1 e.symm) HSM.out.back).mono ?_; rintro e W6 ⟨⟨vv, rfl⟩, hm6, ht6⟩; have HM6 := Lib.hid hm6; have HT6 := Lib.hid ht6; clear hm6 ht6)
      go_roundw
      case rel =>
       have ht56 : Turned (fun q => q = E.bm) W5 W6 := (show Turned (fun q => q = E.bm) W5 W5.drew from ⟨rfl, rfl, rfl, Nat.le_refl _, fun _ _ _ => rfl⟩).trans HT6.out
       refine ⟨p + 1, by omega, by go_num, by rw [HJ.out]; exact congrArg (Value.int .i64) ((IntWalk.wrap64_in _ (by have := HJB.out; omega)).trans (by omega)), HT5.out.trans (ht56.mono (fun q _ e => .inl e)), HW5.out.moved hE (X := fun _ => False) (ht56.mono (fun q _ e => .inl e)) (fun q e => e.elim) HM6.out, ?_, HE1.out⟩
       rw [HJ.out]
       exact HKS.out _ _ _ (HS5.out.1 rfl) ht56
      case measure => simp [intOf]; omega
    ·have HJ : Hid (freeK part (p + 1) = freeK part p) := Lib.hid (by simp [freeK, HHB.out])
     have HE1 : Hid (eachB G part (p + 1) = true) := Lib.hid (by simp [eachB, HHB.out, HEB.out])
     go_wp2_with (go_at_call 65; refine (scontains_any _ _ _ part _ HTK.out).mono ?_; rintro e w9 ⟨rfl, hw9⟩; rw [hw9]; clear hw9; rw [HHB.out])
     go_roundw
     case rel => exact ⟨p + 1, by omega, by go_num, by rw [HJ.out], HT.out, HW.out, by rw [HJ.out]; exact HS.out, HE1.out⟩
     case measure => simp [intOf]; omega
   ·obtain rfl : p = N := by omega
    go_wp2
    go_ret
    exact ⟨by rw [HEB.out]; rfl, HW.out, HT.out, ⟨fun _ => HS.out, fun e => by rw [HEB.out] at e; cases e⟩⟩
 ·go_enter Try.func64, Try.ntmps64
  go_upto_region 3 with fail
  go_loopw [10, 16] (fun j' i' wr => ∃ p : Nat, p ≤ N ∧ i' = .int .i64 (p : Nat) ∧ j' = .int .i64 (freeK part p : Nat) ∧ Turned (fun q => q = E.bm ∨ K.X0 q ∨ s ≤ q) W1 wr ∧ WalkS E w part wr ∧ S (freeK part p) wr ∧ eachB G part p = true) (fun _ i' _ => N - (intOf i').toNat)
  case atStart => exact ⟨0, by omega, rfl, rfl, Turned.refl _ _, HW1.out, HS1.out, rfl⟩
  case round =>
   obtain ⟨p, hpN, rfl, rfl, ht, hw, hS, he⟩ := hrel
   have HT := Lib.hid ht
   have HW := Lib.hid hw
   have HS := Lib.hid hS
   have HEB := Lib.hid he
   have HTK := Lib.hid (HALL.out wr ht).1.ints
   obtain ⟨k1, k2, k3, k4, k5, k6, k7, k8⟩ := HCL.out wr part ht hw
   clear ht hw hS he
   by_cases hpl : p < N
   ·obtain ⟨HB, hHB⟩ : ∃ x, hasB part (p : Int) = x := ⟨_, rfl⟩
    have HHB := Lib.hid hHB
    clear hHB
    cases HB
    ·have HJ : Hid (freeK part (p + 1) = freeK part p + 1) := Lib.hid (by simp [freeK, HHB.out])
     have HE1 : Hid (eachB G part (p + 1) = G (freeK part p) p) := Lib.hid (by simp [eachB, HHB.out, HEB.out])
     have HFJ := Lib.hid (HFL.out p hpl HHB.out)
     have HSM := Lib.hid (HSP.out p HHB.out)
     obtain ⟨j, hj⟩ : ∃ j, freeK part p = j := ⟨_, rfl⟩
     have HJB : Hid (j ≤ p) := Lib.hid (by rw [← hj]; exact free_le part p)
     rw [hj] at HJ HE1 HFJ HS ⊢
     obtain ⟨RB, hRB⟩ : ∃ x, G j p = x := ⟨_, rfl⟩
     have HRB := Lib.hid hRB
     have HNM' := Lib.hid (HNM.out.2.2.2.2.2.2)
     have HSZ : Hid (s ≤ wr.heap.size ∧ W1.heap.size ≤ wr.heap.size) := Lib.hid (by have := HT.out.size; have := HNM'.out; omega)
     rw [hRB] at HE1
     have HJE := Lib.hid hj
     clear hj hRB
     have hwj : IntKind.i64.wrap (FB + (p : Int)) = FB + (p : Int) := IntWalk.i64_in _ (by omega)
     go_upto_region 6 with (go_at_call 65; refine (scontains_any _ _ _ part _ HTK.out).mono ?_; rintro e w9 ⟨rfl, hw9⟩; rw [hw9]; clear hw9; rw [HHB.out])
     clear k1 k2 k3 k4 k5 k6 k7 k8
     go_upto_region 8 with (go_at_call 46; refine (HRDY.out j HFJ.out wr HS.out HW.out HSZ.out.1).mono ?_; rintro e W3 ⟨rfl, hr3, ht3⟩; have HR3 := Lib.hid hr3; have HT3 := Lib.hid ht3; clear hr3 ht3)
     have HT13 : Hid (Turned (fun q => q = E.bm ∨ K.X0 q ∨ s ≤ q) W1 W3) := Lib.hid (HT.out.trans (HT3.out.mono (fun q _ e => .inr (.inl e))))
     have HW3 : Hid (WalkS E w part W3) := Lib.hid (HW.out.turned hE HT3.out (fun q e => (HX0F.out q e).1))
     obtain ⟨k1, k2, k3, k4, k5, k6, k7, k8⟩ := HCL.out W3 part HT13.out HW3.out
     have hp := HP.out
     go_still_tail 9, (by kernel_rfl)
     change wpList _ _ _ _ _ W3.drew
     go_upto_region 9 with (go_at_call 62; refine (move_step W3.drew E.co E.bm E.n _ _ X (FB + (p : Int)) HW3.out.co HW3.out.mp (fun e => hE.ne.2.1 e.symm) HSM.out).mono ?_; rintro e W4 ⟨⟨vv, rfl⟩, hm4, ht4⟩; have HM4 := Lib.hid hm4; have HT4 := Lib.hid ht4; clear hm4 ht4)
     clear k1 k2 k3 k4 k5 k6 k7 k8
     have HT34 : Hid (Turned (fun q => q = E.bm) W3 W4) := Lib.hid ((show Turned (fun q => q = E.bm) W3 W3.drew from ⟨rfl, rfl, rfl, Nat.le_refl _, fun _ _ _ => rfl⟩).trans HT4.out)
     have HW4 : Hid (WalkS E w (part ++ [(p : Int)]) W4) := Lib.hid (HW3.out.moved hE (X := fun _ => False) (HT34.out.mono (fun q _ e => .inl e)) (fun q e => e.elim) HM4.out)
     have HR4 := Lib.hid (HKR.out j _ _ HR3.out HT34.out)
     have HT14 : Hid (Turned (fun q => q = E.bm ∨ K.X0 q ∨ s ≤ q) W1 W4) := Lib.hid (HT13.out.trans (HT34.out.mono (fun q _ e => .inl e)))
     have HSZ4 : Hid (s ≤ W4.heap.size ∧ W1.heap.size ≤ W4.heap.size) := Lib.hid (by have := HT14.out.size; have := HNM'.out; omega)
     have HCL4 : Hid (∀ w2, Below W4.heap.size W4 w2 → w2.cell? ⟨E.cd, 0, none⟩ = some (.func (.func 63) #[] #[.pointer (some ⟨E.cx, 0, none⟩), .pointer (some ⟨E.cp, 0, none⟩), .pointer (some ⟨E.co, 0, none⟩), .pointer (some ⟨E.cm, 0, none⟩), .pointer (some ⟨E.cd, 0, none⟩)]) ∧ w2.cell? ⟨cl, 0, none⟩ = some (.int .i64 (w.length : Int)) ∧ w2.cell? ⟨ct, 0, none⟩ = some v ∧ IsInts w2.heap.size w2 v part) := Lib.hid (fun w2 hb => by
      have ht2 := HT14.out.trans (Turned.of_below hb)
      obtain ⟨g1, g2, g3, g4, g5, g6, g7, g8⟩ := HCL.out w2 _ ht2 (HW4.out.ext hE hb)
      exact ⟨g2, g8, g5, (HALL.out w2 ht2).1.ints⟩)
     have HFO := Lib.hid (HALL.out W4 HT14.out).1.form
     have HDC : Hid (∀ w2 v2 B, Below W4.heap.size W4 w2 → W4.heap.size ≤ B → OwnInts B w2 v2 (part ++ [(p : Int)]) → Calls Try.prog 63 #[.int .i64 (w.length : Int), v2, .pointer (some ⟨E.cx, 0, none⟩), .pointer (some ⟨E.cp, 0, none⟩), .pointer (some ⟨E.co, 0, none⟩), .pointer (some ⟨E.cm, 0, none⟩), .pointer (some ⟨E.cd, 0, none⟩)] w2 fun e W' =>
       e = .returned (.bool RB) ∧ WalkS E w (part ++ [(p : Int)]) W' ∧ Turned (fun q => q = E.bm ∨ K.X0 q ∨ s ≤ q) W1 W' ∧ SZ RB (S (j + 1)) Z W') := Lib.hid (fun w2 v2 B hb hB ho => by
      refine (HDEC.out p j w2 v2 B hpl HHB.out HJE.out (by have := HSZ4.out; have := hb.size; omega) (by have := HSZ4.out; omega) (HW4.out.ext hE hb) (HKR.out j _ _ HR4.out (Turned.of_below hb)) ho).mono ?_
      rintro e W' ⟨g1, g2, g3, g4⟩
      rw [HRB.out] at g1 g4
      exact ⟨g1, g2, (HT14.out.trans (Turned.of_below hb)).trans g3, g4⟩)
     have HPN : Hid (part.length < 100000) := Lib.hid (by have := HP.out; omega)
     obtain ⟨V, hV⟩ : ∃ V : List (Option Value), V = [some (.func (.func 63) #[] #[.pointer (some ⟨E.cx, 0, none⟩), .pointer (some ⟨E.cp, 0, none⟩), .pointer (some ⟨E.co, 0, none⟩), .pointer (some ⟨E.cm, 0, none⟩), .pointer (some ⟨E.cd, 0, none⟩)]), some (.int .i64 (w.length : Int)), some (v), none, some (.int .i64 (p : Nat)), none, none, some (.bool RB), some (.bool RB)] := ⟨_, rfl⟩
     have HVV := Lib.hid hV
     clear hV
     refine wp_region_V [some 36, some 37, some 38, some 39, some 40, some 41, some 42, some 43, some 12] (fun L w' xs => ValsAt V L xs ∧ (ClA W4 part (p : Int) (L 3) (L 5) (L 6) (L 7) (xs 3) (xs 5) (xs 6) (fun W' => WalkS E w (part ++ [(p : Int)]) W' ∧ Turned (fun q => q = E.bm ∨ K.X0 q ∨ s ≤ q) W1 W' ∧ SZ RB (S (j + 1)) Z W') w' ∧ ((L 7 = true → L 0 = true ∧ L 1 = true ∧ L 6 = true) ∧ (L 6 = true → L 3 = true ∧ L 5 = true) ∧ (L 3 = true → L 2 = true)))) (by kernel_rfl) (by kernel_rfl) (by rfl) (by rfl) (by rfl) ?_ ?_ ?_
     focus
      exact fun xs => ⟨ValsAt.none _ _, (by exact ClA.start 1), ⟨(fun e => by cases e), (fun e => by cases e), (fun e => by cases e)⟩⟩
     focus
      refine ⟨?_, ?_, ?_, ?_, ?_, ?_, ?_, ?_, ?_, trivial⟩
      all_goals
       intro L a' w' xs hi hd hf hJ K hK
       obtain ⟨hv, hA, h9⟩ := hJ
       have HF := Lib.hid hf
       have HVA := Lib.hid hv
       have HLI := Lib.hid hi
       clear hf hv hi
      focus
       clear hd
       obtain ⟨ρ, hρ⟩ : ∃ ρ, a'.eval = ρ := ⟨_, rfl⟩
       have hcst : ∀ v, ρ (.const v) = v := fun v => (congrFun hρ (.const v)).symm
       have l6 : ρ (.tmp 6) = .pointer (some ⟨E.cd, 0, none⟩) := (congrFun hρ (.tmp 6)).symm.trans (HF.out.lo 6 rfl)
       have e7 : L 7 = false := by
        cases e : L 7 with
        | false => rfl
        | true => have := (h9.1 e).1; rw [HLI.out] at this; cases this
       obtain ⟨m0, m1, m2, m3⟩ := HCL4.out _ (hA.bel e7)
       rw [if_pos (by simp [Region.wanted])]
       unfold Oper.wp
       rw [hρ]
       clear hρ
       go_simp
       exact hK.out _ _ ⟨HVA.out.set (i := 0) (by rw [HVV.out]; rfl), (by simp only [updV_ne (xs := xs) (show (3 : Nat) ≠ 0 by decide), updV_ne (xs := xs) (show (5 : Nat) ≠ 0 by decide), updV_ne (xs := xs) (show (6 : Nat) ≠ 0 by decide)]; exact hA), (by exact ⟨fun e => ⟨rfl, (h9.1 e).2⟩, h9.2⟩)⟩
      focus
       clear hd
       obtain ⟨ρ, hρ⟩ : ∃ ρ, a'.eval = ρ := ⟨_, rfl⟩
       have hcst : ∀ v, ρ (.const v) = v := fun v => (congrFun hρ (.const v)).symm
       have l7 : ρ (.tmp 7) = .pointer (some ⟨cl, 0, none⟩) := (congrFun hρ (.tmp 7)).symm.trans (HF.out.lo 7 rfl)
       have e7 : L 7 = false := by
        cases e : L 7 with
        | false => rfl
        | true => have := (h9.1 e).2.1; rw [HLI.out] at this; cases this
       obtain ⟨m0, m1, m2, m3⟩ := HCL4.out _ (hA.bel e7)
       rw [if_pos (by simp [Region.wanted])]
       unfold Oper.wp
       rw [hρ]
       clear hρ
       go_simp
       exact hK.out _ _ ⟨HVA.out.set (i := 1) (by rw [HVV.out]; rfl), (by simp only [updV_ne (xs := xs) (show (3 : Nat) ≠ 1 by decide), updV_ne (xs := xs) (show (5 : Nat) ≠ 1 by decide), updV_ne (xs := xs) (show (6 : Nat) ≠ 1 by decide)]; exact hA), (by exact ⟨fun e => ⟨(h9.1 e).1, rfl, (h9.1 e).2.2⟩, h9.2⟩)⟩
      focus
       clear hd
       obtain ⟨ρ, hρ⟩ : ∃ ρ, a'.eval = ρ := ⟨_, rfl⟩
       have hcst : ∀ v, ρ (.const v) = v := fun v => (congrFun hρ (.const v)).symm
       have l2 : ρ (.tmp 2) = .pointer (some ⟨ct, 0, none⟩) := (congrFun hρ (.tmp 2)).symm.trans (HF.out.lo 2 rfl)
       have e3 : L 3 = false := by
        cases e : L 3 with
        | false => rfl
        | true => have := h9.2.2 e; rw [HLI.out] at this; cases this
       have e6 : L 6 = false := by
        cases e : L 6 with
        | false => rfl
        | true => have := (h9.2.1 e).1; rw [e3] at this; cases this
       have e7 : L 7 = false := by
        cases e : L 7 with
        | false => rfl
        | true => have := (h9.1 e).2.2; rw [e6] at this; cases this
       obtain ⟨m0, m1, m2, m3⟩ := HCL4.out _ (hA.bel e7)
       rw [if_pos (by simp [Region.wanted])]
       unfold Oper.wp
       rw [hρ]
       clear hρ
       go_simp
       exact hK.out _ _ ⟨HVA.out.set (i := 2) (by rw [HVV.out]; rfl), (by simp only [updV_ne (xs := xs) (show (3 : Nat) ≠ 2 by decide), updV_ne (xs := xs) (show (5 : Nat) ≠ 2 by decide), updV_ne (xs := xs) (show (6 : Nat) ≠ 2 by decide)]; exact hA), (by exact ⟨h9.1, h9.2.1, fun _ => rfl⟩)⟩
      focus
       obtain ⟨d2, _⟩ := hd
       obtain ⟨ρ, hρ⟩ : ∃ ρ, a'.eval = ρ := ⟨_, rfl⟩
       have hcst : ∀ v, ρ (.const v) = v := fun v => (congrFun hρ (.const v)).symm
       have hfun : ∀ k, ρ (.func k) = .func (.func k) #[] #[] := fun k => (congrFun hρ (.func k)).symm
       have v2 : ρ (.tmp 38) = v := (congrFun hρ (.tmp 38)).symm.trans ((HF.out.ev 2 rfl d2).trans (HVA.out 2 _ (by rw [HVV.out]; rfl) d2))
       have e6 : L 6 = false := by
        cases e : L 6 with
        | false => rfl
        | true => have := (h9.2.1 e).1; rw [HLI.out] at this; cases this
       have e7 : L 7 = false := by
        cases e : L 7 with
        | false => rfl
        | true => have := (h9.1 e).2.2; rw [e6] at this; cases this
       obtain ⟨m0, m1, m2, m3⟩ := HCL4.out _ (hA.bel e7)
       rw [if_pos (by simp [Region.wanted])]
       unfold Oper.wp
       rw [hρ]
       clear hρ
       go_simp
       go_at_call 57
       refine (clone_own _ _ _ part m3 HFO.out (Nat.le_refl _)).mono ?_
       rintro en w5' ⟨v5, rfl, ho5, hb5⟩
       exact hK.out _ _ ⟨HVA.out.free (i := 3) (by rw [HVV.out]; rfl) _, (by simp only [updV_ne (xs := xs) (show (5 : Nat) ≠ 3 by decide), updV_ne (xs := xs) (show (6 : Nat) ≠ 3 by decide), updV_self]; exact hA.sc e6 e7 ho5 hb5), (by exact ⟨h9.1, fun e => ⟨rfl, (h9.2.1 e).2⟩, fun _ => d2⟩)⟩
      focus
       clear hd
       obtain ⟨ρ, hρ⟩ : ∃ ρ, a'.eval = ρ := ⟨_, rfl⟩
       have hcst : ∀ v, ρ (.const v) = v := fun v => (congrFun hρ (.const v)).symm
       have l11 : ρ (.tmp 11) = .int .i64 (p : Nat) := (congrFun hρ (.tmp 11)).symm.trans (HF.out.lo 11 rfl)
       rw [if_pos (by simp [Region.wanted])]
       unfold Oper.wp
       rw [hρ]
       clear hρ
       go_simp
       exact hK.out _ _ ⟨HVA.out.set (i := 4) (by rw [HVV.out]; rfl), (by simp only [updV_ne (xs := xs) (show (3 : Nat) ≠ 4 by decide), updV_ne (xs := xs) (show (5 : Nat) ≠ 4 by decide), updV_ne (xs := xs) (show (6 : Nat) ≠ 4 by decide)]; exact hA), (by exact h9)⟩
      focus
       obtain ⟨d4, _⟩ := hd
       obtain ⟨ρ, hρ⟩ : ∃ ρ, a'.eval = ρ := ⟨_, rfl⟩
       have hcst : ∀ v, ρ (.const v) = v := fun v => (congrFun hρ (.const v)).symm
       have v4 : ρ (.tmp 40) = .int .i64 (p : Nat) := (congrFun hρ (.tmp 40)).symm.trans ((HF.out.ev 4 rfl d4).trans (HVA.out 4 _ (by rw [HVV.out]; rfl) d4))
       have e6 : L 6 = false := by
        cases e : L 6 with
        | false => rfl
        | true => have := (h9.2.1 e).2; rw [HLI.out] at this; cases this
       have e7 : L 7 = false := by
        cases e : L 7 with
        | false => rfl
        | true => have := (h9.1 e).2.2; rw [e6] at this; cases this
       rw [if_pos (by simp [Region.wanted])]
       unfold Oper.wp
       rw [hρ]
       clear hρ
       go_simp
       exact hK.out _ _ ⟨HVA.out.free (i := 5) (by rw [HVV.out]; rfl) _, (by simp only [updV_ne (xs := xs) (show (3 : Nat) ≠ 5 by decide), updV_ne (xs := xs) (show (6 : Nat) ≠ 5 by decide), updV_self]; exact hA.sb e6 e7 rfl), (by exact ⟨h9.1, fun e => ⟨(h9.2.1 e).1, rfl⟩, h9.2.2⟩)⟩
      focus
       obtain ⟨d3, d5, _, _⟩ := hd
       have v3 : a'.eval (.tmp 39) = xs 3 := HF.out.ev 3 rfl d3
       have v5 : a'.eval (.tmp 41) = xs 5 := HF.out.ev 5 rfl d5
       rw [if_pos (by simp [Region.wanted])]
       have e7 : L 7 = false := by
        cases e : L 7 with
        | false => rfl
        | true => have := (h9.1 e).2.2; rw [HLI.out] at this; cases this
       obtain ⟨g, y5, y6⟩ := hA.b d5 HLI.out e7
       obtain ⟨B7, y1, y2, y3⟩ := hA.c d3 HLI.out e7
       rw [y5] at v5
       have hsrc : Src w' 1 (.slice (some ⟨g, 0, none⟩) 1 1) [(p : Int)].length ([(p : Int)].map (Value.int .i64)) := src_one (y6.cell 0) rfl
       obtain ⟨v', w5, z1, z2, z3, z4⟩ := run_append_ints (ty := 25) y3 hsrc (by intro y hy; simp at hy; subst hy; unfold I64; omega) (by have := HPN.out; simp; omega) y2
       refine wp_of_append w' rfl v3 v5 z1 ?_
       exact hK.out _ _ ⟨HVA.out.free (i := 6) (by rw [HVV.out]; rfl) _, (by simp only [updV_ne (xs := xs) (show (3 : Nat) ≠ 6 by decide), updV_ne (xs := xs) (show (5 : Nat) ≠ 6 by decide), updV_self]; exact hA.sa d3 HLI.out e7 y1 (fun k e => Nat.le_trans y1 (y3.ltX k e).1) z2 z3), (by exact ⟨fun e => ⟨(h9.1 e).1, (h9.1 e).2.1, rfl⟩, fun _ => ⟨d3, d5⟩, h9.2.2⟩)⟩
      focus
       obtain ⟨d0, d1, d6, _, _⟩ := hd
       obtain ⟨ρ, hρ⟩ : ∃ ρ, a'.eval = ρ := ⟨_, rfl⟩
       have hcst : ∀ v, ρ (.const v) = v := fun v => (congrFun hρ (.const v)).symm
       have v0 : ρ (.tmp 36) = .func (.func 63) #[] #[.pointer (some ⟨E.cx, 0, none⟩), .pointer (some ⟨E.cp, 0, none⟩), .pointer (some ⟨E.co, 0, none⟩), .pointer (some ⟨E.cm, 0, none⟩), .pointer (some ⟨E.cd, 0, none⟩)] := (congrFun hρ (.tmp 36)).symm.trans ((HF.out.ev 0 rfl d0).trans (HVA.out 0 _ (by rw [HVV.out]; rfl) d0))
       have v1 : ρ (.tmp 37) = .int .i64 (w.length : Int) := (congrFun hρ (.tmp 37)).symm.trans ((HF.out.ev 1 rfl d1).trans (HVA.out 1 _ (by rw [HVV.out]; rfl) d1))
       have v6 : ρ (.tmp 42) = xs 6 := (congrFun hρ (.tmp 42)).symm.trans (HF.out.ev 6 rfl d6)
       rw [if_pos (by simp [Region.wanted])]
       unfold Oper.wp
       rw [hρ]
       clear hρ
       obtain ⟨B7, y1, y2⟩ := hA.a d6 HLI.out
       go_simp
       go_at_call 63
       refine (HDC.out _ _ _ (hA.bel HLI.out) y1 y2).mono ?_
       rintro en w5' ⟨rfl, hq5⟩
       exact hK.out _ _ ⟨HVA.out.set (i := 7) (by rw [HVV.out]; rfl), (by simp only [updV_ne (xs := xs) (show (3 : Nat) ≠ 7 by decide), updV_ne (xs := xs) (show (5 : Nat) ≠ 7 by decide), updV_ne (xs := xs) (show (6 : Nat) ≠ 7 by decide)]; exact ClA.sd HLI.out hq5), (by exact ⟨fun _ => ⟨d0, d1, d6⟩, h9.2⟩)⟩
      focus
       obtain ⟨d7, _, d0, d1, d2, d3, d4, d5, d6, _, _⟩ := hd
       obtain ⟨ρ, hρ⟩ : ∃ ρ, a'.eval = ρ := ⟨_, rfl⟩
       have hcst : ∀ v, ρ (.const v) = v := fun v => (congrFun hρ (.const v)).symm
       have v7 : ρ (.tmp 43) = .bool RB := (congrFun hρ (.tmp 43)).symm.trans ((HF.out.ev 7 rfl d7).trans (HVA.out 7 _ (by rw [HVV.out]; rfl) d7))
       rw [if_pos (by simp [Region.wanted])]
       unfold Oper.wp
       rw [hρ]
       clear hρ
       go_simp
       exact hK.out _ _ ⟨HVA.out.set (i := 8) (by rw [HVV.out]; rfl), (by simp only [updV_ne (xs := xs) (show (3 : Nat) ≠ 8 by decide), updV_ne (xs := xs) (show (5 : Nat) ≠ 8 by decide), updV_ne (xs := xs) (show (6 : Nat) ≠ 8 by decide)]; exact hA), (by exact h9)⟩
     focus
      intro L w' xs hL hJ
      obtain ⟨hv, hA, h9⟩ := hJ
      have e0 : xs 0 = .func (.func 63) #[] #[.pointer (some ⟨E.cx, 0, none⟩), .pointer (some ⟨E.cp, 0, none⟩), .pointer (some ⟨E.co, 0, none⟩), .pointer (some ⟨E.cm, 0, none⟩), .pointer (some ⟨E.cd, 0, none⟩)] := hv 0 _ (by rw [HVV.out]; rfl) (hL 0 (by decide))
      have e1 : xs 1 = .int .i64 (w.length : Int) := hv 1 _ (by rw [HVV.out]; rfl) (hL 1 (by decide))
      have e2 : xs 2 = v := hv 2 _ (by rw [HVV.out]; rfl) (hL 2 (by decide))
      have e4 : xs 4 = .int .i64 (p : Nat) := hv 4 _ (by rw [HVV.out]; rfl) (hL 4 (by decide))
      have e7 : xs 7 = .bool RB := hv 7 _ (by rw [HVV.out]; rfl) (hL 7 (by decide))
      have e8 : xs 8 = .bool RB := hv 8 _ (by rw [HVV.out]; rfl) (hL 8 (by decide))
      simp only [putGo, Act.put, List.setIfInBounds_toArray, List.set_cons_zero, List.set_cons_succ, e0, e1, e2, e4, e7, e8]
      clear hv e0 e1 e2 e4 e7 e8
     obtain ⟨hw5, ht5, hS5⟩ := hA.post (hL 7 (by decide))
     have HW5 := Lib.hid hw5
     have HT5 := Lib.hid ht5
     have HS5 := Lib.hid hS5
     clear hA h9 hw5 ht5 hS5 hL
     obtain ⟨W5, hW5⟩ : ∃ x, w' = x := ⟨_, rfl⟩
     rw [hW5] at HW5 HT5 HS5 ⊢
     clear hW5
     obtain ⟨k1, k2, k3, k4, k5, k6, k7, k8⟩ := HCL.out W5 _ HT5.out HW5.out
     go_wp2
     have hp := HP.out
     go_still_tail 9, (by kernel_rfl)
     change wpList _ _ _ _ _ W5.drew
     cases RB
     ·go_wp2_with (go_at_call 62; refine (move_step W5.drew E.co E.bm E.n _ _ (FB + (p : Int)) X HW5.out.co HW5.out.mp (fun e => hE.ne.2.1 e.symm) HSM.out.back).mono ?_; rintro e W6 ⟨⟨vv, rfl⟩, hm6, ht6⟩; have HM6 := Lib.hid hm6; have HT6 := Lib.hid ht6; clear hm6 ht6)
      go_ret
      have ht56 : Turned (fun q => q = E.bm) W5 W6 := (show Turned (fun q => q = E.bm) W5 W5.drew from ⟨rfl, rfl, rfl, Nat.le_refl _, fun _ _ _ => rfl⟩).trans HT6.out
      rw [HNO.out p hpl HE1.out]
      exact ⟨rfl, HW5.out.moved hE (X := fun _ => False) (ht56.mono (fun q _ e => .inl e)) (fun q e => e.elim) HM6.out, HT5.out.trans (ht56.mono (fun q _ e => .inl e)), ⟨fun e => (by cases e), fun _ => HKZ.out _ _ (HS5.out.2 rfl) ht56⟩⟩
     ·go_wp2_with (go_at_call 62; refine (move_step W5.drew E.co E.bm E.n _ _ (FB + (p : Int)) X HW5.out.co HW5.out.mp (fun e => hE.ne.2.1 e.symm) HSM.out.back).mono ?_; rintro e W6 ⟨⟨vv, rfl⟩, hm6, ht6⟩; have HM6 := Lib.hid hm6; have HT6 := Lib.hid ht6; clear hm6 ht6)
      go_roundw
      case rel =>
       have ht56 : Turned (fun q => q = E.bm) W5 W6 := (show Turned (fun q => q = E.bm) W5 W5.drew from ⟨rfl, rfl, rfl, Nat.le_refl _, fun _ _ _ => rfl⟩).trans HT6.out
       refine ⟨p + 1, by omega, by go_num, by rw [HJ.out]; exact congrArg (Value.int .i64) ((IntWalk.wrap64_in _ (by have := HJB.out; omega)).trans (by omega)), HT5.out.trans (ht56.mono (fun q _ e => .inl e)), HW5.out.moved hE (X := fun _ => False) (ht56.mono (fun q _ e => .inl e)) (fun q e => e.elim) HM6.out, ?_, HE1.out⟩
       rw [HJ.out]
       exact HKS.out _ _ _ (HS5.out.1 rfl) ht56
      case measure => simp [intOf]; omega
    ·have HJ : Hid (freeK part (p + 1) = freeK part p) := Lib.hid (by simp [freeK, HHB.out])
     have HE1 : Hid (eachB G part (p + 1) = true) := Lib.hid (by simp [eachB, HHB.out, HEB.out])
     go_wp2_with (go_at_call 65; refine (scontains_any _ _ _ part _ HTK.out).mono ?_; rintro e w9 ⟨rfl, hw9⟩; rw [hw9]; clear hw9; rw [HHB.out])
     go_roundw
     case rel => exact ⟨p + 1, by omega, by go_num, by rw [HJ.out], HT.out, HW.out, by rw [HJ.out]; exact HS.out, HE1.out⟩
     case measure => simp [intOf]; omega
   ·obtain rfl : p = N := by omega
    go_wp2
    go_ret
    exact ⟨by rw [HEB.out]; rfl, HW.out, HT.out, ⟨fun _ => HS.out, fun e => by rw [HEB.out] at e; cases e⟩⟩
end Go.Proofs.Yteiaeaciaglmgaa
set_option linter.unusedVariables false
set_option linter.unusedSimpArgs false
namespace Go.Proofs.Yteiaeaciaglmgaa
open Go.RowKit
/-- where a sender's letter is, if a whole row was gone and the first i inputs are back -/
def posB (f : Flow) (w : List (List Int)) (i : Nat) (row : List Int) (s : Nat) : Int := if hasB ((lotAt f.lots w.length).ins.take i) (posW f w w.length s) then posW f w w.length s else posR f w (lotAt f.lots w.length).ins.length row s
theorem posB_zero (f : Flow) (w : List (List Int)) (row : List Int) : posB f w 0 row = posR f w (lotAt f.lots w.length).ins.length row := by
 funext s
 unfold posB
 simp [hasB]
theorem posB_all (f : Flow) (w : List (List Int)) (row : List Int) : posB f w (lotAt f.lots w.length).ins.length row = posS f w [] := by
 funext s
 rw [← posS_zero f w row]
 unfold posB posR
 rw [List.take_length, mv_zero]
 by_cases hh : hasB (lotAt f.lots w.length).ins (posW f w w.length s) = true
 ·rw [if_pos hh]
 ·rw [if_neg hh]
  unfold mvI
  rw [if_neg hh]
theorem posB_step {f : Flow} {w : List (List Int)} (hc : checkE f = 0) (hw : WayOk f w w.length) (hk : w.length < f.lots.length) {i : Nat} (hi : i < (lotAt f.lots w.length).ins.length) {row : List Int} (hlow : ∀ j, j < (lotAt f.lots w.length).ins.length → 0 ≤ nth row j) (hd : ∀ j, j < (lotAt f.lots w.length).ins.length → j ≠ i → nth row j ≠ nth row i) :
  StepM f.senders.toNat (posB f w i row) (posB f w (i + 1) row) (beforeI f w.length + nth row i) (nth (lotAt f.lots w.length).ins i) := by
 obtain ⟨h0, h64, hl2, hb5, hlo⟩ := checkE_ok hc
 have hl : lotsB f w.length = true := lotsB_le hlo (by omega)
 obtain ⟨l1, l2, l3, _⟩ := lotB_parts (lotsB_lot hlo hk)
 obtain ⟨g1, g2, g3⟩ := l3 _ (nth_mem' hi)
 obtain ⟨t, ht, e⟩ := pos_hit h0 (Nat.le_of_lt hk) hl hw g1 g2 g3
 have hlt : ∀ s, s < f.senders.toNat → posW f w w.length s < beforeI f w.length := fun s hs => (pos_lt h0 (Nat.le_of_lt hk) hl hw hs).2.1
 have hin : ∀ s, s < f.senders.toNat → nth (lotAt f.lots w.length).ins i = posW f w w.length s → s = t := fun s hs h => pos_inj h0 (Nat.le_of_lt hk) hl hw hs ht (h.symm.trans e.symm)
 have hbi : hasB (lotAt f.lots w.length).ins (nth (lotAt f.lots w.length).ins i) = true := hasB_mem.2 (nth_mem' hi)
 have hidx : ∀ j, j < (lotAt f.lots w.length).ins.length → (lotAt f.lots w.length).ins.idxOf (nth (lotAt f.lots w.length).ins j) = j := fun j hj => by
  have := (idx_take l2 hj (Nat.le_refl _)).1
  rw [List.take_length] at this
  exact this
 have hnt : ∀ y, hasB ((lotAt f.lots w.length).ins.take (i + 1)) y = (hasB ((lotAt f.lots w.length).ins.take i) y || (nth (lotAt f.lots w.length).ins i == y)) := fun y => by
  rw [Bool.eq_iff_iff, Bool.or_eq_true, hasB_mem, hasB_mem, List.take_succ_eq_append_getElem hi, List.mem_append, List.mem_singleton, ← nth_lt hi, beq_iff_eq]
  constructor
  ·rintro (h | h)
   ·exact .inl h
   ·exact .inr h.symm
  ·rintro (h | h)
   ·exact .inl h
   ·exact .inr h.symm
 have hni : hasB ((lotAt f.lots w.length).ins.take i) (nth (lotAt f.lots w.length).ins i) = false := by
  cases hh : hasB ((lotAt f.lots w.length).ins.take i) (nth (lotAt f.lots w.length).ins i) with
  | false => rfl
  | true =>
   have h1 := take_idx l2 (Nat.le_of_lt hi) hh
   have h3 := hidx i hi
   omega
 -- a letter that is not back
 have hfar : ∀ s, s < f.senders.toNat → ∀ {y}, posR f w (lotAt f.lots w.length).ins.length row s = y → (∃ j, j < (lotAt f.lots w.length).ins.length ∧ posW f w w.length s = nth (lotAt f.lots w.length).ins j ∧ y = beforeI f w.length + nth row j) ∨ (hasB (lotAt f.lots w.length).ins (posW f w w.length s) = false ∧ y = posW f w w.length s) := fun s hs y h => by
  unfold posR at h
  rw [List.take_length] at h
  unfold mvI at h
  by_cases hh : hasB (lotAt f.lots w.length).ins (posW f w w.length s) = true
  ·rw [if_pos hh] at h
   obtain ⟨j, hj, e2⟩ := List.mem_iff_getElem.1 (hasB_mem.1 hh)
   have e3 : posW f w w.length s = nth (lotAt f.lots w.length).ins j := by rw [nth_lt hj]; exact e2.symm
   rw [e3, hidx j hj] at h
   exact .inl ⟨j, hj, e3, h.symm⟩
  ·rw [if_neg hh] at h
   exact .inr ⟨by simpa using hh, h.symm⟩
 refine ⟨t, ht, ?_, ?_, fun s hs => ?_, fun s hs => ?_, fun s hs hne => ?_⟩
 ·unfold posB posR
  rw [e, if_neg (by simp [hni]), List.take_length]
  unfold mvI
  rw [if_pos hbi, hidx i hi]
 ·unfold posB
  rw [e, hnt, if_pos (by simp)]
 ·unfold posB
  by_cases hh : hasB ((lotAt f.lots w.length).ins.take i) (posW f w w.length s) = true
  ·rw [if_pos hh]
   intro h
   rw [h, hni] at hh
   cases hh
  ·rw [if_neg hh]
   intro h
   rcases hfar s hs h with ⟨j, hj, e3, e4⟩ | ⟨e3, e4⟩
   ·have := hlow j hj; omega
   ·rw [← e4, hbi] at e3; cases e3
 ·unfold posB
  rw [hnt]
  have hli := hlow i hi
  by_cases hh : (hasB ((lotAt f.lots w.length).ins.take i) (posW f w w.length s) || (nth (lotAt f.lots w.length).ins i == posW f w w.length s)) = true
  ·rw [if_pos hh]
   have := hlt s hs; omega
  ·rw [if_neg hh]
   intro h
   rcases hfar s hs h with ⟨j, hj, e3, e4⟩ | ⟨e3, e4⟩
   ·by_cases e5 : j = i
    ·subst e5
     rw [e3] at hh
     simp at hh
    ·exact hd j hj e5 (by omega)
   ·have := hlt s hs; omega
 ·unfold posB
  rw [hnt]
  have : (nth (lotAt f.lots w.length).ins i == posW f w w.length s) = false := by
   rw [beq_eq_false_iff_ne]
   exact fun h => hne (hin s hs h)
  rw [this, Bool.or_false]
/-- what walk's client promises where all lots are done -/
def EndC (E : EnvW) (K : Client E) : Prop := ∀ (m : Nat) (w : List (List Int)) (W : World) (t : K.T), StOk E.f w [] → w.length = E.f.lots.length → WalkS E w [] W → K.At t W → (∀ q, K.X t q → E.Free q ∧ q < W.heap.size) →
 Calls Try.prog E.pf #[.map (some E.bm), .int .i64 (-1), .int .i64 0, .nilFunc, E.p1, E.p2, E.p3, E.p4] W fun e W' =>
  e = .returned (.bool (K.res m t w [])) ∧ WalkS E w [] W' ∧ Turned (fun q => q = E.bm ∨ K.X t q) W W' ∧ K.Dn m t w [] W'
/-- what it promises where an input is next -/
def PartC (E : EnvW) (K : Client E) : Prop := ∀ (m : Nat) (w : List (List Int)) (part : List Int) (W : World) (t : K.T) (cy ct ci cf cl : Nat), StOk E.f w part → w.length < E.f.lots.length → (lotAt E.f.lots w.length).known = false → part.length < (lotAt E.f.lots w.length).ins.length →
 WalkS E w part W → K.At t W → (∀ q, K.X t q → E.Free q ∧ q < W.heap.size) → (∃ v, Taken E (K.X t) W v part ∧ EachF E w part v cy ct ci cf cl W) → EachC E K m w part W.heap.size cy ct ci cf cl t →
 Calls Try.prog E.pf #[.map (some E.bm), .int .i64 (w.length : Int), .int .i64 (part.length : Int), .func (.func 64) #[] #[.pointer (some ⟨cy, 0, none⟩), .pointer (some ⟨ct, 0, none⟩), .pointer (some ⟨E.cm, 0, none⟩), .pointer (some ⟨ci, 0, none⟩), .pointer (some ⟨cf, 0, none⟩), .pointer (some ⟨E.cd, 0, none⟩), .pointer (some ⟨cl, 0, none⟩)], E.p1, E.p2, E.p3, E.p4] W fun e W' =>
  e = .returned (.bool (K.res (m + 1) t w part)) ∧ WalkS E w part W' ∧ Turned (fun q => q = E.bm ∨ K.X t q) W W' ∧ K.Dn (m + 1) t w part W'
theorem settle_end {f : Flow} {w : List (List Int)} {part : List Int} (hw : w.length = f.lots.length) : settleS f w part = (w, part) := by
 unfold settleS
 rw [hw, Nat.sub_self]
 rfl
theorem settle_lot {f : Flow} {w : List (List Int)} {part : List Int} (hk : w.length < f.lots.length) : settleS f w part = if (lotAt f.lots w.length).known then settleS f (w ++ [(lotAt f.lots w.length).perm]) [] else if part.length < (lotAt f.lots w.length).ins.length then (w, part) else settleS f (w ++ [part]) [] := by
 unfold settleS
 obtain ⟨m, hm⟩ : ∃ m, f.lots.length - w.length = m + 1 := ⟨f.lots.length - w.length - 1, by omega⟩
 have e1 : f.lots.length - (w ++ [(lotAt f.lots w.length).perm]).length = m := by simp; omega
 have e2 : f.lots.length - (w ++ [part]).length = m := by simp; omega
 have e3 : f.lots.length - (m + 1) = w.length := by omega
 rw [hm, e1, e2]
 simp only [settleM, e3]
set_option maxHeartbeats 4000000 in
set_option maxRecDepth 100000 in
theorem decide_end (E : EnvW) (hE : E.Ok) (K : Client E) (hpf : E.pf = 41 ∨ E.pf = 45) (hcl : EndC E K) (m : Nat) (w : List (List Int)) (hso : StOk E.f w []) (hw : w.length = E.f.lots.length) : DecideAt E K m w [] := by
 intro W v t hS htk hat hX
 have hh := hcl m w
 rw [settle_end hw]
 obtain ⟨vF0, A0, R0, M0, g1, g2, g3, g4, g5, g6, _⟩ := hS.lots.lay
 obtain ⟨b, off, capL, ⟨aL, hvl, hL1, hL2, hL3⟩, hL4, hL5⟩ := hS.flow
 have m2 := g5.cell 0
 simp at m2
 rw [hvl] at m2
 have HM2 := Lib.hid m2
 have HQL : Hid (E.q0 < W.heap.size) := Lib.hid (by omega)
 have HS := Lib.hid hS
 have HKP := Lib.hid K.keep
 have HX := Lib.hid hX
 have HAT := Lib.hid hat
 have HHH := Lib.hid (fun (W' : World) (h1 : WalkS E w [] W') (h2 : K.At t W') (h3) => hh W' t hso hw h1 h2 h3)
 clear g1 g2 g3 g4 g5 g6 hL3 hL5 m2 hh hS hX hat
 rw [hw]
 go_enter Try.func63, Try.ntmps63
 go_upto_region 1 with fail
 refine wp_name (fun W1 hW1 => ?_)
 have HB1 : Hid (Below W.heap.size W W1) := Lib.hid (by rw [hW1]; exact (box_below' W _).trans ((box_below' _ _).mono (by simp)))
 have m1 := (HS.out.ext hE HB1.out).cx.cell
 have m2 := (HB1.out.cell (p := ⟨E.q0, 0, none⟩) HQL.out).trans HM2.out
 have m3 := (HS.out.ext hE HB1.out).cp.cell
 have m4 := (HS.out.ext hE HB1.out).co.cell
 have HK1 : Hid (Box W1 W.heap.size #[.int .i64 (E.f.lots.length : Int)]) := Lib.hid (by rw [hW1]; exact (Box.new W _ _).alloc _)
 have m5 := HK1.out.2
 clear hW1
 go_wp2
 go_quiet (fail)
 clear m1 m2 m5
 unfold EnvW.PV at m3
 have HPO : Hid (∀ k, Calls Try.prog E.pf #[.map (some E.bm), .int .i64 (-1), .int .i64 0, .nilFunc, E.p1, E.p2, E.p3, E.p4] (W1.drewN k) fun e W' =>
   e = .returned (.bool (K.res m t w [])) ∧ WalkS E w [] W' ∧ Turned (fun q => q = E.bm ∨ K.X t q) W W' ∧ K.Dn m t w [] W') := Lib.hid (fun k => by
  have hb : Below W.heap.size W (W1.drewN k) := HB1.out.trans ((below_drewN (Below.refl _ _) k).mono HB1.out.size)
  refine (HHH.out _ (HS.out.ext hE hb) (HKP.out _ _ _ HAT.out (Turned.of_below hb)) (fun q hq => ⟨(HX.out q hq).1, by have := (HX.out q hq).2; have := hb.size; omega⟩)).mono ?_
  rintro e W' ⟨e1, e2, e3, e4⟩
  exact ⟨e1, e2, (Turned.of_below hb).trans e3, e4⟩)
 rcases hpf with hpf | hpf
 ·rw [hpf] at m3 HPO
  go_wp2_with (go_at_call 41; refine (HPO.out _).mono ?_; rintro e w9 ⟨rfl, hq9⟩; have HQ9 := Lib.hid hq9; clear hq9)
  go_ret
  exact ⟨rfl, HQ9.out⟩
 ·rw [hpf] at m3 HPO
  go_wp2_with (go_at_call 45; refine (HPO.out _).mono ?_; rintro e w9 ⟨rfl, hq9⟩; have HQ9 := Lib.hid hq9; clear hq9)
  go_ret
  exact ⟨rfl, HQ9.out⟩
end Go.Proofs.Yteiaeaciaglmgaa
set_option linter.unusedVariables false
set_option linter.unusedSimpArgs false
namespace Go.Proofs.Yteiaeaciaglmgaa
open Go.RowKit
/-- two blocks made, and stored into -/
structure AlA (W1 : World) (vi vk vp vb : Value) (f14 f15 f16 f17 : Bool) (x14 x15 : Value) (w : World) : Prop where
 bel : Below W1.heap.size W1 w
 a14 : f14 = true → ∃ c, x14 = .pointer (some ⟨c, 0, none⟩) ∧ W1.heap.size ≤ c ∧ (f16 = false → CellsN w c #[.slice none 0 0, .bool false, .slice none 0 0]) ∧ (f16 = true → CellsN w c #[vi, vk, vp]) ∧ (f15 = true → x15 ≠ .pointer (some ⟨c, 0, none⟩))
 a15 : f15 = true → ∃ c, x15 = .pointer (some ⟨c, 0, none⟩) ∧ W1.heap.size ≤ c ∧ c < w.heap.size ∧ (f17 = false → Cell1 w c (.int .i64 0)) ∧ (f17 = true → Cell1 w c vb)
theorem CellsN.ltN {w : World} {r : Nat} {c : Array Value} (h : CellsN w r c) : r < w.heap.size := by
 obtain ⟨t, h⟩ := h
 exact (Array.getElem?_eq_some_iff.1 h).1
theorem AlA.start {W1 : World} {vi vk vp vb x14 x15 : Value} (n : Nat) : AlA W1 vi vk vp vb false false false false x14 x15 (W1.drewN n) where
 bel := below_drewN (Below.refl _ _) n
 a14 := fun e => by cases e
 a15 := fun e => by cases e
section
variable {W1 : World} {vi vk vp vb : Value} {f14 f15 f16 f17 : Bool} {x14 x15 : Value} {w : World} (h : AlA W1 vi vk vp vb f14 f15 f16 f17 x14 x15 w)
include h
theorem AlA.s14 (h16 : f16 = false) {x : Value} (he : x = .pointer (some ⟨w.heap.size, 0, none⟩)) : AlA W1 vi vk vp vb true f15 f16 f17 x x15 (w.alloc (.cells #[.slice none 0 0, .bool false, .slice none 0 0] 54)) := by
 subst h16 he
 refine ⟨h.bel.alloc h.bel.size _, fun _ => ⟨_, rfl, h.bel.size, fun _ => CellsN.new w _ _, (fun e => by cases e), fun e e2 => ?_⟩, fun e => ?_⟩
 ·obtain ⟨c, q1, q2, q3, _⟩ := h.a15 e
  rw [q1] at e2
  simp only [Value.pointer.injEq, Option.some.injEq, Addr.mk.injEq] at e2
  omega
 ·obtain ⟨c, q1, q2, q3, q4, q5⟩ := h.a15 e
  exact ⟨c, q1, q2, by simp; omega, fun e => (q4 e).alloc _, fun e => (q5 e).alloc _⟩
theorem AlA.s15 (h17 : f17 = false) {x : Value} (he : x = .pointer (some ⟨w.heap.size, 0, none⟩)) : AlA W1 vi vk vp vb f14 true f16 f17 x14 x (w.alloc (.cells #[.int .i64 0] 3)) := by
 subst h17 he
 refine ⟨h.bel.alloc h.bel.size _, fun e => ?_, fun _ => ⟨_, rfl, h.bel.size, by simp, fun _ => Cell1.new w _ _, (fun e => by cases e)⟩⟩
 obtain ⟨c, q1, q2, q3, q4, q5⟩ := h.a14 e
 have hlt : c < w.heap.size := by
  cases hh : f16 with
  | false => exact (q3 hh).ltN
  | true => exact (q4 hh).ltN
 exact ⟨c, q1, q2, fun e => (q3 e).alloc _, fun e => (q4 e).alloc _, fun _ e => by simp only [Value.pointer.injEq, Option.some.injEq, Addr.mk.injEq] at e; omega⟩
theorem AlA.s16 (h14 : f14 = true) (h15 : f15 = true) (h16 : f16 = false) (h17 : f17 = false) {c : Nat} (hx : x14 = .pointer (some ⟨c, 0, none⟩)) : AlA W1 vi vk vp vb f14 f15 true f17 x14 x15 (((w.setCell ⟨c, 0, none⟩ vi).setCell ⟨c, 1, none⟩ vk).setCell ⟨c, 2, none⟩ vp) := by
 subst h14 h15 h16 h17 hx
 obtain ⟨c', q1, q2, q3, q4, q5⟩ := h.a14 rfl
 obtain rfl : c = c' := by simpa using q1
 obtain ⟨d, r1, r2, r3, r4, r5⟩ := h.a15 rfl
 have hcd : d ≠ c := fun e => q5 rfl (by rw [r1, e])
 have k1 := (((q3 rfl).set 0 vi).set 1 vk).set 2 vp
 refine ⟨((h.bel.setCell (p := ⟨c, 0, none⟩) q2 _).setCell (p := ⟨c, 1, none⟩) q2 _).setCell (p := ⟨c, 2, none⟩) q2 _, fun _ => ⟨c, rfl, q2, (fun e => by cases e), (fun _ => by simpa using k1), q5⟩, fun _ => ⟨d, r1, r2, by simpa using r3, fun _ => ?_, (fun e => by cases e)⟩⟩
 exact (((r4 rfl).grown (grown_setCell w ⟨c, 0, none⟩ vi) (by simpa using hcd)).grown (grown_setCell _ ⟨c, 1, none⟩ vk) (by simpa using hcd)).grown (grown_setCell _ ⟨c, 2, none⟩ vp) (by simpa using hcd)
theorem AlA.s17 (h14 : f14 = true) (h15 : f15 = true) (h16 : f16 = true) (h17 : f17 = false) {d : Nat} (hx : x15 = .pointer (some ⟨d, 0, none⟩)) : AlA W1 vi vk vp vb f14 f15 f16 true x14 x15 (w.setCell ⟨d, 0, none⟩ vb) := by
 subst h14 h15 h16 h17 hx
 obtain ⟨c, q1, q2, q3, q4, q5⟩ := h.a14 rfl
 obtain ⟨d', r1, r2, r3, r4, r5⟩ := h.a15 rfl
 obtain rfl : d = d' := by simpa using r1
 have hcd : c ≠ d := fun e => q5 rfl (by rw [e])
 exact ⟨h.bel.setCell (p := ⟨d, 0, none⟩) r2 _, fun _ => ⟨c, q1, q2, (fun e => by cases e), fun _ => (q4 rfl).grown (grown_setCell w ⟨d, 0, none⟩ vb) (by simpa using hcd), q5⟩, fun _ => ⟨d, rfl, r2, by simpa using r3, (fun e => by cases e), fun _ => (r4 rfl).set vb⟩⟩
end
set_option maxHeartbeats 8000000 in
set_option maxRecDepth 100000 in
theorem decide_lot (E : EnvW) (hE : E.Ok) (K : Client E) (hpf : E.pf = 41 ∨ E.pf = 45) (hcl : PartC E K) (hX0 : ∀ t q, K.X0 q → K.X t q) (hc : checkE E.f = 0) (m : Nat) (w : List (List Int)) (part : List Int) (hso : StOk E.f w part) (hk : w.length < E.f.lots.length)
  (hnk : (lotAt E.f.lots w.length).known = true → DecideAt E K m (w ++ [(lotAt E.f.lots w.length).perm]) [])
  (hnf : (lotAt E.f.lots w.length).known = false → part.length = (lotAt E.f.lots w.length).ins.length → DecideAt E K m (w ++ [part]) [])
  (hnm : (lotAt E.f.lots w.length).known = false → part.length < (lotAt E.f.lots w.length).ins.length → ∃ m', m = m' + 1 ∧ ∀ i : Nat, i < (lotAt E.f.lots w.length).ins.length → hasB part (i : Int) = false → DecideAt E K m' w (part ++ [(i : Int)])) : DecideAt E K m w part := by
 intro W v t hS htk hat hX
 obtain ⟨h0, h64, hl2, hb5, hlo⟩ := checkE_ok hc
 have HLB := Lib.hid (lotB_parts (lotsB_lot hlo hk))
 have HSO := Lib.hid hso
 obtain ⟨av, cv, rfl⟩ := htk.slice
 obtain ⟨b, off, capL, ⟨aL, hvl, hL1, hL2, hL3⟩, hL4, hL5⟩ := hS.flow
 obtain rfl : aL = some ⟨b, off, none⟩ := by rcases hL3 with h | h; exact h; omega
 obtain ⟨vi, vk, vp, q1, q2, q3, hli, rfl, hlp⟩ := hL5 w.length hk
 obtain ⟨ai, ci', rfl⟩ := hli.form
 obtain ⟨ap, cp', rfl⟩ := hlp.form
 have HLI2 := Lib.hid hli
 have HLP := Lib.hid hlp
 obtain ⟨bF, oF, cF, r1, r2, r3⟩ := hS.lots.read hk
 rw [hvl] at r1
 obtain ⟨vF0, A0, R0, M0, g1, g2, g3, g4, g5, g6, _⟩ := hS.lots.lay
 have HQL : Hid (E.q0 < W.heap.size) := Lib.hid (by omega)
 have HS := Lib.hid hS
 have HTK := Lib.hid htk
 have HKP := Lib.hid K.keep
 have HKD := Lib.hid K.keepD
 have HX := Lib.hid hX
 have HAT := Lib.hid hat
 have HSZ : Hid (E.B ≤ W.heap.size ∧ E.C ≤ W.heap.size ∧ E.bm < E.C) := Lib.hid (by have := hS.sz; have h1 := hE.o1; have h2 := hE.o2; have h3 := hE.o3; have h4 := hE.x3; omega)
 have hni : (lotAt E.f.lots w.length).ins.length ≤ 50000 := ins_small hc hk
 have HRD0 : Hid (∀ W', Below W.heap.size W W' → W'.cell? ⟨E.cx, 0, none⟩ = some (.pointer (some ⟨E.q0, 0, none⟩)) ∧ W'.cell? ⟨E.q0, 0, none⟩ = some (.slice (some ⟨b, off, none⟩) E.f.lots.length capL) ∧ W'.cell? ⟨E.q0, 1, none⟩ = some (.slice (some ⟨bF, oF, none⟩) E.f.lots.length cF) ∧
   W'.cell? ⟨b, off + w.length * 3, none⟩ = some (.slice ai (lotAt E.f.lots w.length).ins.length ci') ∧ W'.cell? ⟨b, off + w.length * 3 + 1, none⟩ = some (.bool (lotAt E.f.lots w.length).known) ∧ W'.cell? ⟨b, off + w.length * 3 + 2, none⟩ = some (.slice ap (lotAt E.f.lots w.length).perm.length cp') ∧
   W'.cell? ⟨bF, oF + w.length, none⟩ = some (.int .i64 (beforeI E.f w.length))) := Lib.hid (fun W' hb => by
  have hbW := hb.mono HSZ.out.1
  obtain ⟨bF', oF', cF', r1', r2', r3'⟩ := (hS.ext hE hb).lots.read hk
  have e2 := (hb.cell (p := ⟨E.q0, 1, none⟩) HQL.out).trans r2
  rw [r2'] at e2
  simp only [Option.some.injEq, Value.slice.injEq, Addr.mk.injEq] at e2
  obtain ⟨⟨e3, e4, _⟩, _, e5⟩ := e2
  subst e3 e4 e5
  exact ⟨(hS.ext hE hb).cx.cell, (hb.cell (p := ⟨E.q0, 0, none⟩) HQL.out).trans r1, r2', (q1.below hbW (Nat.le_refl _)).2, (q2.below hbW (Nat.le_refl _)).2, (q3.below hbW (Nat.le_refl _)).2, r3'⟩)
 have hmf := @run_makeFunc_any Try.prog
 have HNK := Lib.hid hnk
 have HNF := Lib.hid hnf
 have HNM := Lib.hid hnm
 have HPC := Lib.hid hcl
 have HX0 := Lib.hid (hX0 t)
 have HEA := Lib.hid (fun (m' : Nat) (hp : part.length < (lotAt E.f.lots w.length).ins.length) (hd) (s cy ct ci cf cl : Nat) (a1) (a2) (a3) => each_any E hE K m' w part hc hso hk hp hd t s cy ct ci cf cl a1 a2 a3 (hX0 t))
 have hse := settle_lot (part := part) hk
 have HWP := Lib.hid hso.way
 have h64 : beforeI E.f w.length + (lotAt E.f.lots w.length).ins.length ≤ 50000 := (before_bd hc (k := w.length + 1) (by omega)).2
 have h065 := (before_bd hc (k := w.length) (by omega)).1
 have HPF := Lib.hid hso.fit
 have HRW := Lib.hid (fun (h : (lotAt E.f.lots w.length).known = true) => hso.known h)
 have HST := Lib.hid (fun i hi row h1 h2 => posR_step hc hso.way hk (i := i) hi (row := row) h1 h2)
 have HSB := Lib.hid (fun i hi row h1 h2 => posB_step hc hso.way hk (i := i) hi (row := row) h1 h2)
 clear hL3 hL5 q1 q2 q3 hli hlp r1 r2 r3 g1 g2 g3 g4 g5 g6 hS htk hX hat hnk hnf hnm hcl hX0 hso
 obtain ⟨kn, hkn⟩ : ∃ x, (lotAt E.f.lots w.length).known = x := ⟨_, rfl⟩
 have HKN := Lib.hid hkn
 rw [hkn] at hse HRD0
 obtain ⟨FB, hFB⟩ : ∃ X, beforeI E.f w.length = X := ⟨_, rfl⟩
 have HFB := Lib.hid hFB
 rw [hFB] at HRD0 h64 h065 HST HSB
 obtain ⟨N, hN⟩ : ∃ X, (lotAt E.f.lots w.length).ins.length = X := ⟨_, rfl⟩
 have HN := Lib.hid hN
 rw [hN] at HRD0 hni h64
 obtain ⟨NP, hNP⟩ : ∃ X, (lotAt E.f.lots w.length).perm.length = X := ⟨_, rfl⟩
 have HNP := Lib.hid hNP
 rw [hNP] at HRD0
 clear hN hNP
 obtain ⟨k, hkk⟩ : ∃ X, w.length = X := ⟨_, rfl⟩
 have HKK := Lib.hid hkk
 obtain ⟨SS, hSS⟩ : ∃ x, settleS E.f w part = x := ⟨_, rfl⟩
 rw [hSS] at hse ⊢
 have HSE := Lib.hid hse
 clear hSS
 have hk2 : k < E.f.lots.length := by rw [← hkk]; exact hk
 rw [hkk] at HRD0 ⊢
 clear hkn hFB hkk hse hk
 go_enter Try.func63, Try.ntmps63
 go_upto_region 1 with fail
 refine wp_name (fun W1 hW1 => ?_)
 have HB1 : Hid (Below W.heap.size W W1) := Lib.hid (by rw [hW1]; exact (box_below' W _).trans ((box_below' _ _).mono (by simp)))
 have HK1 : Hid (Cell1 W1 W.heap.size (.int .i64 (k : Int))) := Lib.hid (by rw [hW1]; exact (Cell1.new W _ _).alloc _)
 have HT1 : Hid (Cell1 W1 (W.heap.size + 1) (.slice av part.length cv)) := Lib.hid (by
  rw [hW1]
  have h := Cell1.new (W.alloc (.cells #[.int .i64 (k : Int)] 3)) (.slice av part.length cv) 25
  rw [World.size_alloc] at h
  exact h)
 have HZ1 : Hid (W1.heap.size = W.heap.size + 1 + 1) := Lib.hid (by rw [hW1]; simp)
 have HRD : Hid (∀ W', Below W1.heap.size W1 W' → Below W.heap.size W W' ∧ W'.cell? ⟨W.heap.size, 0, none⟩ = some (.int .i64 (k : Int))) := Lib.hid (fun W' h => ⟨HB1.out.trans (h.mono HB1.out.size), (HK1.out.ext h).cell⟩)
 obtain ⟨m1, m2, _⟩ := HRD0.out W1 HB1.out
 have m3 := HK1.out.cell
 have hne : ((k : Int) == (E.f.lots.length : Int)) = false := by simp; omega
 have hne2 : (k == E.f.lots.length) = false := by simp; omega
 clear hW1
 go_wp2
 go_quiet (fail)
 clear m1 m2 m3
 go_upto_region 3 with fail
 refine wp_name (fun W2 hW2 => ?_)
 have HB2 : Hid (Below W1.heap.size W1 W2) := Lib.hid (by rw [hW2]; exact below_drewN (Below.refl _ _) _)
 have HZ2 : Hid (W2.heap.size = W.heap.size + 1 + 1) := Lib.hid (by rw [hW2]; exact HZ1.out)
 clear hW2
 obtain ⟨V, hV⟩ : ∃ V : List (Option Value), V = [some (.pointer (some ⟨E.q0, 0, none⟩)), some (.pointer (some ⟨E.q0, 0, none⟩)), some (.pointer (some ⟨E.q0, 0, none⟩)), some (.slice (some ⟨b, off, none⟩) E.f.lots.length capL), some (.int .i64 (k : Int)), some (.pointer (some ⟨b, off + k * 3, none⟩)), some (.agg #[.slice ai N ci', .bool kn, .slice ap NP cp']), some (.pointer (some ⟨E.q0, 0, none⟩)), some (.pointer (some ⟨E.q0, 0, none⟩)), some (.pointer (some ⟨E.q0, 1, none⟩)), some (.slice (some ⟨bF, oF, none⟩) E.f.lots.length cF), some (.int .i64 (k : Int)), some (.pointer (some ⟨bF, oF + k, none⟩)), some (.int .i64 FB), none, none, none, none] := ⟨_, rfl⟩
 have HVV := Lib.hid hV
 clear hV
 refine wp_region_V [some 28, some 29, some 30, some 31, some 32, some 33, some 34, some 35, some 36, some 37, some 38, some 39, some 40, some 41, some 10, some 11, none, none] (fun L w' xs => ValsAt V L xs ∧ (AlA W2 (.slice ai N ci') (.bool kn) (.slice ap NP cp') (.int .i64 FB) (L 14) (L 15) (L 16) (L 17) (xs 14) (xs 15) w' ∧ ((L 16 = true → L 14 = true ∧ L 15 = true) ∧ (L 17 = true → L 16 = true)))) (by kernel_rfl) (by kernel_rfl) (by rfl) (by rfl) (by rfl) ?_ ?_ ?_
 focus
  exact fun xs => ⟨ValsAt.none _ _, (by exact AlA.start 1), ⟨(fun e => by cases e), (fun e => by cases e)⟩⟩
 focus
  refine ⟨?_, ?_, ?_, ?_, ?_, ?_, ?_, ?_, ?_, ?_, ?_, ?_, ?_, ?_, ?_, ?_, ?_, ?_, trivial⟩
  all_goals
   intro L a' w' xs hi hd hf hJ K hK
   obtain ⟨hv, hA, h9⟩ := hJ
   have HF := Lib.hid hf
   have HVA := Lib.hid hv
   have HLI := Lib.hid hi
   clear hf hv hi
  focus
   clear hd
   obtain ⟨ρ, hρ⟩ : ∃ ρ, a'.eval = ρ := ⟨_, rfl⟩
   have hcst : ∀ v, ρ (.const v) = v := fun v => (congrFun hρ (.const v)).symm
   have l2 : ρ (.tmp 2) = .pointer (some ⟨E.cx, 0, none⟩) := (congrFun hρ (.tmp 2)).symm.trans (HF.out.lo 2 rfl)
   obtain ⟨hbw, mk⟩ := HRD.out _ (HB2.out.trans (hA.bel.mono HB2.out.size))
   obtain ⟨m0, m1, m2, m3, m4, m5, m6⟩ := HRD0.out _ hbw
   rw [if_pos (by simp [Region.wanted])]
   unfold Oper.wp
   rw [hρ]
   clear hρ
   go_simp
   exact hK.out _ _ ⟨HVA.out.set (i := 0) (by rw [HVV.out]; rfl), (by simp only [updV_ne (xs := xs) (show (14 : Nat) ≠ 0 by decide), updV_ne (xs := xs) (show (15 : Nat) ≠ 0 by decide)]; exact hA), (by exact h9)⟩
  focus
   obtain ⟨d0, _⟩ := hd
   obtain ⟨ρ, hρ⟩ : ∃ ρ, a'.eval = ρ := ⟨_, rfl⟩
   have hcst : ∀ v, ρ (.const v) = v := fun v => (congrFun hρ (.const v)).symm
   have v0 : ρ (.tmp 28) = .pointer (some ⟨E.q0, 0, none⟩) := (congrFun hρ (.tmp 28)).symm.trans ((HF.out.ev 0 rfl d0).trans (HVA.out 0 _ (by rw [HVV.out]; rfl) d0))
   rw [if_pos (by simp [Region.wanted])]
   unfold Oper.wp
   rw [hρ]
   clear hρ
   go_simp
   exact hK.out _ _ ⟨HVA.out.set (i := 1) (by rw [HVV.out]; rfl), (by simp only [updV_ne (xs := xs) (show (14 : Nat) ≠ 1 by decide), updV_ne (xs := xs) (show (15 : Nat) ≠ 1 by decide)]; exact hA), (by exact h9)⟩
  focus
   obtain ⟨d1, _⟩ := hd
   obtain ⟨ρ, hρ⟩ : ∃ ρ, a'.eval = ρ := ⟨_, rfl⟩
   have hcst : ∀ v, ρ (.const v) = v := fun v => (congrFun hρ (.const v)).symm
   have v1 : ρ (.tmp 29) = .pointer (some ⟨E.q0, 0, none⟩) := (congrFun hρ (.tmp 29)).symm.trans ((HF.out.ev 1 rfl d1).trans (HVA.out 1 _ (by rw [HVV.out]; rfl) d1))
   rw [if_pos (by simp [Region.wanted])]
   unfold Oper.wp
   rw [hρ]
   clear hρ
   go_simp
   exact hK.out _ _ ⟨HVA.out.set (i := 2) (by rw [HVV.out]; rfl), (by simp only [updV_ne (xs := xs) (show (14 : Nat) ≠ 2 by decide), updV_ne (xs := xs) (show (15 : Nat) ≠ 2 by decide)]; exact hA), (by exact h9)⟩
  focus
   obtain ⟨d2, _⟩ := hd
   obtain ⟨ρ, hρ⟩ : ∃ ρ, a'.eval = ρ := ⟨_, rfl⟩
   have hcst : ∀ v, ρ (.const v) = v := fun v => (congrFun hρ (.const v)).symm
   have v2 : ρ (.tmp 30) = .pointer (some ⟨E.q0, 0, none⟩) := (congrFun hρ (.tmp 30)).symm.trans ((HF.out.ev 2 rfl d2).trans (HVA.out 2 _ (by rw [HVV.out]; rfl) d2))
   obtain ⟨hbw, mk⟩ := HRD.out _ (HB2.out.trans (hA.bel.mono HB2.out.size))
   obtain ⟨m0, m1, m2, m3, m4, m5, m6⟩ := HRD0.out _ hbw
   rw [if_pos (by simp [Region.wanted])]
   unfold Oper.wp
   rw [hρ]
   clear hρ
   go_simp
   exact hK.out _ _ ⟨HVA.out.set (i := 3) (by rw [HVV.out]; rfl), (by simp only [updV_ne (xs := xs) (show (14 : Nat) ≠ 3 by decide), updV_ne (xs := xs) (show (15 : Nat) ≠ 3 by decide)]; exact hA), (by exact h9)⟩
  focus
   clear hd
   obtain ⟨ρ, hρ⟩ : ∃ ρ, a'.eval = ρ := ⟨_, rfl⟩
   have hcst : ∀ v, ρ (.const v) = v := fun v => (congrFun hρ (.const v)).symm
   have l7 : ρ (.tmp 7) = .pointer (some ⟨W.heap.size, 0, none⟩) := (congrFun hρ (.tmp 7)).symm.trans (HF.out.lo 7 rfl)
   obtain ⟨hbw, mk⟩ := HRD.out _ (HB2.out.trans (hA.bel.mono HB2.out.size))
   obtain ⟨m0, m1, m2, m3, m4, m5, m6⟩ := HRD0.out _ hbw
   rw [if_pos (by simp [Region.wanted])]
   unfold Oper.wp
   rw [hρ]
   clear hρ
   go_simp
   exact hK.out _ _ ⟨HVA.out.set (i := 4) (by rw [HVV.out]; rfl), (by simp only [updV_ne (xs := xs) (show (14 : Nat) ≠ 4 by decide), updV_ne (xs := xs) (show (15 : Nat) ≠ 4 by decide)]; exact hA), (by exact h9)⟩
  focus
   obtain ⟨d3, d4, _⟩ := hd
   obtain ⟨ρ, hρ⟩ : ∃ ρ, a'.eval = ρ := ⟨_, rfl⟩
   have hcst : ∀ v, ρ (.const v) = v := fun v => (congrFun hρ (.const v)).symm
   have v3 : ρ (.tmp 31) = .slice (some ⟨b, off, none⟩) E.f.lots.length capL := (congrFun hρ (.tmp 31)).symm.trans ((HF.out.ev 3 rfl d3).trans (HVA.out 3 _ (by rw [HVV.out]; rfl) d3))
   have v4 : ρ (.tmp 32) = .int .i64 (k : Int) := (congrFun hρ (.tmp 32)).symm.trans ((HF.out.ev 4 rfl d4).trans (HVA.out 4 _ (by rw [HVV.out]; rfl) d4))
   rw [if_pos (by simp [Region.wanted])]
   unfold Oper.wp
   rw [hρ]
   clear hρ
   go_simp
   exact hK.out _ _ ⟨HVA.out.set (i := 5) (by rw [HVV.out]; rfl), (by simp only [updV_ne (xs := xs) (show (14 : Nat) ≠ 5 by decide), updV_ne (xs := xs) (show (15 : Nat) ≠ 5 by decide)]; exact hA), (by exact h9)⟩
  focus
   obtain ⟨d5, _⟩ := hd
   obtain ⟨ρ, hρ⟩ : ∃ ρ, a'.eval = ρ := ⟨_, rfl⟩
   have hcst : ∀ v, ρ (.const v) = v := fun v => (congrFun hρ (.const v)).symm
   have v5 : ρ (.tmp 33) = .pointer (some ⟨b, off + k * 3, none⟩) := (congrFun hρ (.tmp 33)).symm.trans ((HF.out.ev 5 rfl d5).trans (HVA.out 5 _ (by rw [HVV.out]; rfl) d5))
   obtain ⟨hbw, mk⟩ := HRD.out _ (HB2.out.trans (hA.bel.mono HB2.out.size))
   obtain ⟨m0, m1, m2, m3, m4, m5, m6⟩ := HRD0.out _ hbw
   rw [if_pos (by simp [Region.wanted])]
   unfold Oper.wp
   rw [hρ]
   clear hρ
   go_simp
   exact hK.out _ _ ⟨HVA.out.set (i := 6) (by rw [HVV.out]; rfl), (by simp only [updV_ne (xs := xs) (show (14 : Nat) ≠ 6 by decide), updV_ne (xs := xs) (show (15 : Nat) ≠ 6 by decide)]; exact hA), (by exact h9)⟩
  focus
   clear hd
   obtain ⟨ρ, hρ⟩ : ∃ ρ, a'.eval = ρ := ⟨_, rfl⟩
   have hcst : ∀ v, ρ (.const v) = v := fun v => (congrFun hρ (.const v)).symm
   have l2 : ρ (.tmp 2) = .pointer (some ⟨E.cx, 0, none⟩) := (congrFun hρ (.tmp 2)).symm.trans (HF.out.lo 2 rfl)
   obtain ⟨hbw, mk⟩ := HRD.out _ (HB2.out.trans (hA.bel.mono HB2.out.size))
   obtain ⟨m0, m1, m2, m3, m4, m5, m6⟩ := HRD0.out _ hbw
   rw [if_pos (by simp [Region.wanted])]
   unfold Oper.wp
   rw [hρ]
   clear hρ
   go_simp
   exact hK.out _ _ ⟨HVA.out.set (i := 7) (by rw [HVV.out]; rfl), (by simp only [updV_ne (xs := xs) (show (14 : Nat) ≠ 7 by decide), updV_ne (xs := xs) (show (15 : Nat) ≠ 7 by decide)]; exact hA), (by exact h9)⟩
  focus
   obtain ⟨d7, _⟩ := hd
   obtain ⟨ρ, hρ⟩ : ∃ ρ, a'.eval = ρ := ⟨_, rfl⟩
   have hcst : ∀ v, ρ (.const v) = v := fun v => (congrFun hρ (.const v)).symm
   have v7 : ρ (.tmp 35) = .pointer (some ⟨E.q0, 0, none⟩) := (congrFun hρ (.tmp 35)).symm.trans ((HF.out.ev 7 rfl d7).trans (HVA.out 7 _ (by rw [HVV.out]; rfl) d7))
   rw [if_pos (by simp [Region.wanted])]
   unfold Oper.wp
   rw [hρ]
   clear hρ
   go_simp
   exact hK.out _ _ ⟨HVA.out.set (i := 8) (by rw [HVV.out]; rfl), (by simp only [updV_ne (xs := xs) (show (14 : Nat) ≠ 8 by decide), updV_ne (xs := xs) (show (15 : Nat) ≠ 8 by decide)]; exact hA), (by exact h9)⟩
  focus
   obtain ⟨d8, _⟩ := hd
   obtain ⟨ρ, hρ⟩ : ∃ ρ, a'.eval = ρ := ⟨_, rfl⟩
   have hcst : ∀ v, ρ (.const v) = v := fun v => (congrFun hρ (.const v)).symm
   have v8 : ρ (.tmp 36) = .pointer (some ⟨E.q0, 0, none⟩) := (congrFun hρ (.tmp 36)).symm.trans ((HF.out.ev 8 rfl d8).trans (HVA.out 8 _ (by rw [HVV.out]; rfl) d8))
   rw [if_pos (by simp [Region.wanted])]
   unfold Oper.wp
   rw [hρ]
   clear hρ
   go_simp
   exact hK.out _ _ ⟨HVA.out.set (i := 9) (by rw [HVV.out]; rfl), (by simp only [updV_ne (xs := xs) (show (14 : Nat) ≠ 9 by decide), updV_ne (xs := xs) (show (15 : Nat) ≠ 9 by decide)]; exact hA), (by exact h9)⟩
  focus
   obtain ⟨d9, _⟩ := hd
   obtain ⟨ρ, hρ⟩ : ∃ ρ, a'.eval = ρ := ⟨_, rfl⟩
   have hcst : ∀ v, ρ (.const v) = v := fun v => (congrFun hρ (.const v)).symm
   have v9 : ρ (.tmp 37) = .pointer (some ⟨E.q0, 1, none⟩) := (congrFun hρ (.tmp 37)).symm.trans ((HF.out.ev 9 rfl d9).trans (HVA.out 9 _ (by rw [HVV.out]; rfl) d9))
   obtain ⟨hbw, mk⟩ := HRD.out _ (HB2.out.trans (hA.bel.mono HB2.out.size))
   obtain ⟨m0, m1, m2, m3, m4, m5, m6⟩ := HRD0.out _ hbw
   rw [if_pos (by simp [Region.wanted])]
   unfold Oper.wp
   rw [hρ]
   clear hρ
   go_simp
   exact hK.out _ _ ⟨HVA.out.set (i := 10) (by rw [HVV.out]; rfl), (by simp only [updV_ne (xs := xs) (show (14 : Nat) ≠ 10 by decide), updV_ne (xs := xs) (show (15 : Nat) ≠ 10 by decide)]; exact hA), (by exact h9)⟩
  focus
   clear hd
   obtain ⟨ρ, hρ⟩ : ∃ ρ, a'.eval = ρ := ⟨_, rfl⟩
   have hcst : ∀ v, ρ (.const v) = v := fun v => (congrFun hρ (.const v)).symm
   have l7 : ρ (.tmp 7) = .pointer (some ⟨W.heap.size, 0, none⟩) := (congrFun hρ (.tmp 7)).symm.trans (HF.out.lo 7 rfl)
   obtain ⟨hbw, mk⟩ := HRD.out _ (HB2.out.trans (hA.bel.mono HB2.out.size))
   obtain ⟨m0, m1, m2, m3, m4, m5, m6⟩ := HRD0.out _ hbw
   rw [if_pos (by simp [Region.wanted])]
   unfold Oper.wp
   rw [hρ]
   clear hρ
   go_simp
   exact hK.out _ _ ⟨HVA.out.set (i := 11) (by rw [HVV.out]; rfl), (by simp only [updV_ne (xs := xs) (show (14 : Nat) ≠ 11 by decide), updV_ne (xs := xs) (show (15 : Nat) ≠ 11 by decide)]; exact hA), (by exact h9)⟩
  focus
   obtain ⟨d10, d11, _⟩ := hd
   obtain ⟨ρ, hρ⟩ : ∃ ρ, a'.eval = ρ := ⟨_, rfl⟩
   have hcst : ∀ v, ρ (.const v) = v := fun v => (congrFun hρ (.const v)).symm
   have v10 : ρ (.tmp 38) = .slice (some ⟨bF, oF, none⟩) E.f.lots.length cF := (congrFun hρ (.tmp 38)).symm.trans ((HF.out.ev 10 rfl d10).trans (HVA.out 10 _ (by rw [HVV.out]; rfl) d10))
   have v11 : ρ (.tmp 39) = .int .i64 (k : Int) := (congrFun hρ (.tmp 39)).symm.trans ((HF.out.ev 11 rfl d11).trans (HVA.out 11 _ (by rw [HVV.out]; rfl) d11))
   rw [if_pos (by simp [Region.wanted])]
   unfold Oper.wp
   rw [hρ]
   clear hρ
   go_simp
   exact hK.out _ _ ⟨HVA.out.set (i := 12) (by rw [HVV.out]; rfl), (by simp only [updV_ne (xs := xs) (show (14 : Nat) ≠ 12 by decide), updV_ne (xs := xs) (show (15 : Nat) ≠ 12 by decide)]; exact hA), (by exact h9)⟩
  focus
   obtain ⟨d12, _⟩ := hd
   obtain ⟨ρ, hρ⟩ : ∃ ρ, a'.eval = ρ := ⟨_, rfl⟩
   have hcst : ∀ v, ρ (.const v) = v := fun v => (congrFun hρ (.const v)).symm
   have v12 : ρ (.tmp 40) = .pointer (some ⟨bF, oF + k, none⟩) := (congrFun hρ (.tmp 40)).symm.trans ((HF.out.ev 12 rfl d12).trans (HVA.out 12 _ (by rw [HVV.out]; rfl) d12))
   obtain ⟨hbw, mk⟩ := HRD.out _ (HB2.out.trans (hA.bel.mono HB2.out.size))
   obtain ⟨m0, m1, m2, m3, m4, m5, m6⟩ := HRD0.out _ hbw
   rw [if_pos (by simp [Region.wanted])]
   unfold Oper.wp
   rw [hρ]
   clear hρ
   go_simp
   exact hK.out _ _ ⟨HVA.out.set (i := 13) (by rw [HVV.out]; rfl), (by simp only [updV_ne (xs := xs) (show (14 : Nat) ≠ 13 by decide), updV_ne (xs := xs) (show (15 : Nat) ≠ 13 by decide)]; exact hA), (by exact h9)⟩
  focus
   clear hd
   obtain ⟨ρ, hρ⟩ : ∃ ρ, a'.eval = ρ := ⟨_, rfl⟩
   have hcst : ∀ v, ρ (.const v) = v := fun v => (congrFun hρ (.const v)).symm
   rw [if_pos (by simp [Region.wanted])]
   unfold Oper.wp
   rw [hρ]
   clear hρ
   have e16 : L 16 = false := by
    cases e : L 16 with
    | false => rfl
    | true => have := (h9.1 e).1; rw [HLI.out] at this; cases this
   go_simp
   exact hK.out _ _ ⟨HVA.out.free (i := 14) (by rw [HVV.out]; rfl) _, (by simp only [updV_ne (xs := xs) (show (15 : Nat) ≠ 14 by decide), updV_self]; exact hA.s14 e16 rfl), (by exact ⟨fun e => ⟨rfl, (h9.1 e).2⟩, h9.2⟩)⟩
  focus
   clear hd
   obtain ⟨ρ, hρ⟩ : ∃ ρ, a'.eval = ρ := ⟨_, rfl⟩
   have hcst : ∀ v, ρ (.const v) = v := fun v => (congrFun hρ (.const v)).symm
   rw [if_pos (by simp [Region.wanted])]
   unfold Oper.wp
   rw [hρ]
   clear hρ
   have e16 : L 16 = false := by
    cases e : L 16 with
    | false => rfl
    | true => have := (h9.1 e).2; rw [HLI.out] at this; cases this
   have e17 : L 17 = false := by
    cases e : L 17 with
    | false => rfl
    | true => have := h9.2 e; rw [e16] at this; cases this
   go_simp
   exact hK.out _ _ ⟨HVA.out.free (i := 15) (by rw [HVV.out]; rfl) _, (by simp only [updV_ne (xs := xs) (show (14 : Nat) ≠ 15 by decide), updV_self]; exact hA.s15 e17 rfl), (by exact ⟨fun e => ⟨(h9.1 e).1, rfl⟩, h9.2⟩)⟩
  focus
   obtain ⟨d14, d6, d0, d1, d2, d3, d4, d5, _, _, d15, _⟩ := hd
   obtain ⟨ρ, hρ⟩ : ∃ ρ, a'.eval = ρ := ⟨_, rfl⟩
   have hcst : ∀ v, ρ (.const v) = v := fun v => (congrFun hρ (.const v)).symm
   have v14 : ρ (.tmp 10) = xs 14 := (congrFun hρ (.tmp 10)).symm.trans (HF.out.ev 14 rfl d14)
   have v6 : ρ (.tmp 34) = .agg #[.slice ai N ci', .bool kn, .slice ap NP cp'] := (congrFun hρ (.tmp 34)).symm.trans ((HF.out.ev 6 rfl d6).trans (HVA.out 6 _ (by rw [HVV.out]; rfl) d6))
   rw [if_pos (by simp [Region.wanted])]
   unfold Oper.wp
   rw [hρ]
   clear hρ
   have e17 : L 17 = false := by
    cases e : L 17 with
    | false => rfl
    | true => have := h9.2 e; rw [HLI.out] at this; cases this
   obtain ⟨c, e1, c2, c3, _⟩ := hA.a14 d14
   have hSS := Lib.hid (hA.s16 d14 d15 HLI.out e17 e1)
   have hzd := c3 HLI.out
   have fz0 := hzd.free 0
   have fz1 := hzd.free 1
   have fz2 := hzd.free 2
   have zz0 := hzd.cell 0
   have zz1 := hzd.cell 1
   have zz2 := hzd.cell 2
   simp at zz0 zz1 zz2
   rw [e1] at v14
   clear hzd c3 e1
   go_simp
   exact hK.out undef _ ⟨HVA.out.free (i := 16) (by rw [HVV.out]; rfl) _, (by simp only [updV_ne (xs := xs) (show (14 : Nat) ≠ 16 by decide), updV_ne (xs := xs) (show (15 : Nat) ≠ 16 by decide)]; exact hSS.out), (by exact ⟨fun _ => ⟨d14, d15⟩, fun _ => rfl⟩)⟩
  focus
   obtain ⟨d15, d13, d16, d0, d1, d2, d3, d4, d5, d6, d7, d8, d9, d10, d11, d12, _, d14, _, _, _⟩ := hd
   obtain ⟨ρ, hρ⟩ : ∃ ρ, a'.eval = ρ := ⟨_, rfl⟩
   have hcst : ∀ v, ρ (.const v) = v := fun v => (congrFun hρ (.const v)).symm
   have v15 : ρ (.tmp 11) = xs 15 := (congrFun hρ (.tmp 11)).symm.trans (HF.out.ev 15 rfl d15)
   have v13 : ρ (.tmp 41) = .int .i64 FB := (congrFun hρ (.tmp 41)).symm.trans ((HF.out.ev 13 rfl d13).trans (HVA.out 13 _ (by rw [HVV.out]; rfl) d13))
   rw [if_pos (by simp [Region.wanted])]
   unfold Oper.wp
   rw [hρ]
   clear hρ
   obtain ⟨c, e1, c2, _, c4, _⟩ := hA.a15 d15
   have hSS := Lib.hid (hA.s17 d14 d15 d16 HLI.out e1)
   have fz0 := (c4 HLI.out).free
   have zz0 := (c4 HLI.out).cell
   rw [e1] at v15
   clear c4 e1
   go_simp
   exact hK.out undef _ ⟨HVA.out.free (i := 17) (by rw [HVV.out]; rfl) _, (by simp only [updV_ne (xs := xs) (show (14 : Nat) ≠ 17 by decide), updV_ne (xs := xs) (show (15 : Nat) ≠ 17 by decide)]; exact hSS.out), (by exact ⟨h9.1, fun _ => d16⟩)⟩
 focus
  intro L w' xs hL hJ
  obtain ⟨hv, hA, h9⟩ := hJ
  have e0 : xs 0 = .pointer (some ⟨E.q0, 0, none⟩) := hv 0 _ (by rw [HVV.out]; rfl) (hL 0 (by decide))
  have e1 : xs 1 = .pointer (some ⟨E.q0, 0, none⟩) := hv 1 _ (by rw [HVV.out]; rfl) (hL 1 (by decide))
  have e2 : xs 2 = .pointer (some ⟨E.q0, 0, none⟩) := hv 2 _ (by rw [HVV.out]; rfl) (hL 2 (by decide))
  have e3 : xs 3 = .slice (some ⟨b, off, none⟩) E.f.lots.length capL := hv 3 _ (by rw [HVV.out]; rfl) (hL 3 (by decide))
  have e4 : xs 4 = .int .i64 (k : Int) := hv 4 _ (by rw [HVV.out]; rfl) (hL 4 (by decide))
  have e5 : xs 5 = .pointer (some ⟨b, off + k * 3, none⟩) := hv 5 _ (by rw [HVV.out]; rfl) (hL 5 (by decide))
  have e6 : xs 6 = .agg #[.slice ai N ci', .bool kn, .slice ap NP cp'] := hv 6 _ (by rw [HVV.out]; rfl) (hL 6 (by decide))
  have e7 : xs 7 = .pointer (some ⟨E.q0, 0, none⟩) := hv 7 _ (by rw [HVV.out]; rfl) (hL 7 (by decide))
  have e8 : xs 8 = .pointer (some ⟨E.q0, 0, none⟩) := hv 8 _ (by rw [HVV.out]; rfl) (hL 8 (by decide))
  have e9 : xs 9 = .pointer (some ⟨E.q0, 1, none⟩) := hv 9 _ (by rw [HVV.out]; rfl) (hL 9 (by decide))
  have e10 : xs 10 = .slice (some ⟨bF, oF, none⟩) E.f.lots.length cF := hv 10 _ (by rw [HVV.out]; rfl) (hL 10 (by decide))
  have e11 : xs 11 = .int .i64 (k : Int) := hv 11 _ (by rw [HVV.out]; rfl) (hL 11 (by decide))
  have e12 : xs 12 = .pointer (some ⟨bF, oF + k, none⟩) := hv 12 _ (by rw [HVV.out]; rfl) (hL 12 (by decide))
  have e13 : xs 13 = .int .i64 FB := hv 13 _ (by rw [HVV.out]; rfl) (hL 13 (by decide))
  simp only [putGo, Act.put, List.setIfInBounds_toArray, List.set_cons_zero, List.set_cons_succ, e0, e1, e2, e3, e4, e5, e6, e7, e8, e9, e10, e11, e12, e13]
  clear hv e0 e1 e2 e3 e4 e5 e6 e7 e8 e9 e10 e11 e12 e13
 obtain ⟨cy, e14, cyS, _, cyC, cyN⟩ := hA.a14 (hL 14 (by decide))
 obtain ⟨cf, e15, cfS, _, _, cfC⟩ := hA.a15 (hL 15 (by decide))
 obtain ⟨W3, hW3⟩ : ∃ x, w' = x := ⟨_, rfl⟩
 have HB3 := Lib.hid hA.bel
 have HCY := Lib.hid (cyC (hL 16 (by decide)))
 have HCF := Lib.hid (cfC (hL 17 (by decide)))
 rw [e14, e15]
 rw [hW3] at HB3 HCY HCF ⊢
 have HNU : Hid (W.heap.size + 1 + 1 ≤ cy ∧ W.heap.size + 1 + 1 ≤ cf) := Lib.hid (by have := HZ2.out; omega)
 have HBW3 : Hid (Below W.heap.size W W3) := Lib.hid ((HRD.out _ (HB2.out.trans (HB3.out.mono HB2.out.size))).1)
 have HCL3 : Hid (Cell1 W3 W.heap.size (.int .i64 (k : Int))) := Lib.hid ((HK1.out.ext HB2.out).ext HB3.out)
 have HCT3 : Hid (Cell1 W3 (W.heap.size + 1) (.slice av part.length cv)) := Lib.hid ((HT1.out.ext HB2.out).ext HB3.out)
 have HS3 := Lib.hid (HS.out.ext hE HBW3.out)
 clear hA h9 hL hW3 e14 e15 cyS cfS cyC cyN cfC
 have n0 := HCY.out.cell 0
 have n1 := HCY.out.cell 1
 simp at n0 n1
 cases kn
 ·simp only [if_neg (show ¬ (false = true) by decide)] at HSE
  have n2 := HCT3.out.cell
  go_upto_region 18 with fail
  refine wp_name (fun W4 hW4 => ?_)
  have HB4 : Hid (Below W3.heap.size W3 W4) := Lib.hid (by rw [hW4]; exact box_below' W3 _)
  have HCI : Hid (Cell1 W4 W3.heap.size (.int .i64 (part.length : Int))) := Lib.hid (by rw [hW4]; exact Cell1.new W3 _ _)
  have HBW4 : Hid (Below W.heap.size W W4) := Lib.hid (HBW3.out.trans (HB4.out.mono HBW3.out.size))
  have HZ4 : Hid (W4.heap.size = W3.heap.size + 1) := Lib.hid (by rw [hW4]; simp)
  clear hW4 n0 n1 n2
  have n3 := HCI.out.cell
  have n4 := (HCY.out.turned (Turned.of_below (X := fun _ => False) HB4.out) (fun e => e)).cell 0
  simp at n4
  have n5 := (HCL3.out.ext HB4.out).cell
  have HS4 := Lib.hid (HS.out.ext hE HBW4.out)
  have HAT4 := Lib.hid (HKP.out _ _ _ HAT.out (Turned.of_below HBW4.out))
  have HX4 : Hid (∀ q, K.X t q → E.Free q ∧ q < W4.heap.size) := Lib.hid (fun q hq => ⟨(HX.out q hq).1, by have := (HX.out q hq).2; have := HBW4.out.size; omega⟩)
  obtain ⟨L, hLp⟩ : ∃ X, part.length = X := ⟨_, rfl⟩
  have HLP2 := Lib.hid hLp
  by_cases hpn : part.length = N
  ·have hq : ((part.length : Int) == (N : Int)) = true := by simp [hpn]
   have hq2 : (part.length == N) = true := by simp [hpn]
   have HNX := Lib.hid (HNF.out HKN.out (by rw [HN.out]; exact hpn) W4 (.slice none 0 0) t (HS4.out.same (fun s hs => by
    rw [← posS_full (by rw [HKK.out]; exact hk2), HN.out, ← hpn]; rfl)) (.inl ⟨rfl, rfl⟩) HAT4.out HX4.out)
   have n6 : W4.cell? ⟨E.cd, 0, none⟩ = some (.func (.func 63) #[] #[.pointer (some ⟨E.cx, 0, none⟩), .pointer (some ⟨E.cp, 0, none⟩), .pointer (some ⟨E.co, 0, none⟩), .pointer (some ⟨E.cm, 0, none⟩), .pointer (some ⟨E.cd, 0, none⟩)]) := HS4.out.cd.cell
   have hlen : (((w ++ [part]).length : Nat) : Int) = (k : Int) + 1 := by simp [HKK.out]
   rw [hlen] at HNX
   have HLN := Lib.hid hlen
   have hwk : IntKind.i64.wrap ((k : Int) + 1) = (k : Int) + 1 := IntWalk.i64_in _ (by omega)
   have HS2 : Hid (SS = settleS E.f (w ++ [part]) []) := Lib.hid (by rw [HSE.out, if_neg (by rw [HN.out]; omega)])
   clear hlen hLp
   go_wp2_with (go_at_call 63; refine HNX.out.mono ?_; rintro e w9 ⟨rfl, hq9⟩; have HQ9 := Lib.hid hq9; clear hq9)
   go_ret
   rw [HS2.out]
   exact ⟨rfl, HQ9.out.1.same (fun s hs => by rw [← posS_full (by rw [HKK.out]; exact hk2), HN.out, ← hpn]; rfl), (Turned.of_below HBW4.out).trans HQ9.out.2.1, HQ9.out.2.2⟩
  ·have hpl : part.length < N := by have := HPF.out; rw [HN.out] at this; omega
   have hq : ((part.length : Int) == (N : Int)) = false := by simp; omega
   have hq2 : (part.length == N) = false := by simp; omega
   obtain ⟨m', hm', hdd⟩ := HNM.out HKN.out (by rw [HN.out]; exact hpl)
   have n7 := HS4.out.cp.cell
   have n8 := HS4.out.co.cell
   unfold EnvW.PV at n7
   have HS2 : Hid (SS = (w, part)) := Lib.hid (by rw [HSE.out, if_pos (by rw [HN.out]; exact hpl)])
   have HPP := Lib.hid (HPC.out m' w part W4 t cy (W.heap.size + 1) W3.heap.size cf W.heap.size HSO.out (by rw [HKK.out]; exact hk2) HKN.out (by rw [HN.out]; exact hpl) HS4.out HAT4.out HX4.out
    ⟨.slice av part.length cv, HTK.out.turned hE (Turned.of_below (X := fun _ => False) HBW4.out) (fun q e => e.elim), ⟨⟨ai, ci', .slice ap NP cp', by rw [HN.out]; exact HCY.out.turned (Turned.of_below (X := fun _ => False) HB4.out) (fun e => e), by rw [HN.out] at HLI2 ⊢; exact HLI2.out.below (HBW4.out.mono HSZ.out.1) (Nat.le_refl _)⟩, HCT3.out.ext HB4.out, HCI.out, by rw [HFB.out]; exact HCF.out.ext HB4.out, by rw [HKK.out]; exact HCL3.out.ext HB4.out⟩⟩
    (HEA.out m' (by rw [HN.out]; exact hpl) hdd W4.heap.size cy (W.heap.size + 1) W3.heap.size cf W.heap.size (by have := HSZ.out; have := HBW4.out.size; omega)
     (by have h1 := HSZ.out; have h2 := HNU.out; have h3 := HBW4.out.size; have h4 := HCY.out.ltN; have h5 := HCF.out.lt; have h6 := HZ4.out; have h7 := HBW3.out.size; have h8 := HCT3.out.lt; omega)
     (fun q hq => ⟨(HX.out q hq).1, by have h1 := (HX.out q hq).2; have h2 := HNU.out; have h3 := HBW4.out.size; have h7 := HBW3.out.size; omega⟩)))
   rw [← hm', HKK.out] at HPP
   have HPP2 := Lib.hid HPP.out
   clear hdd hLp hm'
   rcases hpf with hpf | hpf
   ·rw [hpf] at n7
    have HP3 := HPP2.out
    rw [hpf] at HP3
    have HP4 := Lib.hid HP3
    clear HP3
    go_wp2_with (go_at_call 41; refine HP4.out.mono ?_; rintro e w9 ⟨rfl, hq9⟩; have HQ9 := Lib.hid hq9; clear hq9)
    go_ret
    rw [HS2.out]
    exact ⟨rfl, HQ9.out.1, (Turned.of_below HBW4.out).trans HQ9.out.2.1, HQ9.out.2.2⟩
   ·rw [hpf] at n7
    have HP3 := HPP2.out
    rw [hpf] at HP3
    have HP4 := Lib.hid HP3
    clear HP3
    go_wp2_with (go_at_call 45; refine HP4.out.mono ?_; rintro e w9 ⟨rfl, hq9⟩; have HQ9 := Lib.hid hq9; clear hq9)
    go_ret
    rw [HS2.out]
    exact ⟨rfl, HQ9.out.1, (Turned.of_below HBW4.out).trans HQ9.out.2.1, HQ9.out.2.2⟩
 ·have hp0 := HRW.out HKN.out
  subst hp0
  obtain ⟨P, hP⟩ : ∃ X, (lotAt E.f.lots w.length).perm = X := ⟨_, rfl⟩
  have HPE := Lib.hid hP
  obtain ⟨g1, g2, g3, g4, _⟩ := HLB.out
  obtain ⟨p1, p2, p3⟩ := permB_parts (g4 HKN.out)
  rw [hP] at p1 p2 p3 HNP HLP
  rw [HN.out] at p1 p2
  have HPR : Hid ((∀ j, j < N → 0 ≤ nth P j ∧ nth P j < N) ∧ ∀ i j, i < N → j < N → j ≠ i → nth P j ≠ nth P i) := Lib.hid ⟨fun j hj => p1 _ (nth_mem' (by omega)), fun i j hi hj hne e => hne (nth_injC p3 (by omega) (by omega) e)⟩
  have hN1 : 1 ≤ N := by
   rw [← HN.out]
   cases e : (lotAt E.f.lots w.length).ins with
   | nil => exact absurd e g1
   | cons x l => simp
  obtain rfl : NP = N := by rw [← HNP.out, p2]
  obtain ⟨bi, oi, c2, ⟨a2, e2, _, _, e3⟩, _, _, hci⟩ := HLI2.out
  obtain ⟨bp, op, c4, ⟨a4, e4, _, _, e5⟩, _, _, hcp⟩ := HLP.out
  rw [HN.out] at e2 e3 hci
  rw [p2] at e4 e5 hcp
  obtain ⟨rfl, rfl⟩ : ai = a2 ∧ ci' = c2 := by simpa using e2
  obtain ⟨rfl, rfl⟩ : ap = a4 ∧ cp' = c4 := by simpa using e4
  obtain rfl : ai = some ⟨bi, oi, none⟩ := by rcases e3 with h | h; exact h; omega
  obtain rfl : ap = some ⟨bp, op, none⟩ := by rcases e5 with h | h; exact h; omega
  have n2 := HCY.out.cell 2
  simp at n2
  have HRO : Hid (∀ wr, Turned (fun q => q = E.bm ∨ K.X t q) W3 wr → wr.cell? ⟨E.cm, 0, none⟩ = some (.func (.func 62) #[] #[.pointer (some ⟨E.co, 0, none⟩)]) ∧ wr.cell? ⟨cy, 0, none⟩ = some (.slice (some ⟨bi, oi, none⟩) NP ci') ∧ wr.cell? ⟨cy, 2, none⟩ = some (.slice (some ⟨bp, op, none⟩) NP cp') ∧ wr.cell? ⟨cf, 0, none⟩ = some (.int .i64 FB) ∧ Cell1 wr E.co (.map (some E.bm)) ∧
    wr.cell? ⟨E.cd, 0, none⟩ = some (.func (.func 63) #[] #[.pointer (some ⟨E.cx, 0, none⟩), .pointer (some ⟨E.cp, 0, none⟩), .pointer (some ⟨E.co, 0, none⟩), .pointer (some ⟨E.cm, 0, none⟩), .pointer (some ⟨E.cd, 0, none⟩)]) ∧ wr.cell? ⟨W.heap.size, 0, none⟩ = some (.int .i64 (k : Int)) ∧ ∀ i, i < NP → wr.cell? ⟨bi, oi + i, none⟩ = some (.int .i64 (nth (lotAt E.f.lots w.length).ins i)) ∧ wr.cell? ⟨bp, op + i, none⟩ = some (.int .i64 (nth P i))) := Lib.hid (fun wr ht => by
   have h1 := hE.o1; have h2 := hE.o2; have h3 := hE.o3; have x2 := hE.x2; have x3 := hE.x3; have x4 := hE.x4; have x5 := hE.x5
   obtain ⟨z1, z2, z3, z4⟩ := hE.ne
   have hs := HSZ.out
   have hnu := HNU.out
   have hsz3 := HBW3.out.size
   have hn : ∀ q, (q = E.bm ∨ K.X t q) → q < W.heap.size ∧ E.B ≤ q ∧ q ≠ E.cm ∧ q ≠ E.co ∧ q ≠ E.cd := fun q e => by
    rcases e with e | e
    ·omega
    ·obtain ⟨f1, f2⟩ := HX.out q e
     unfold EnvW.Free at f1
     omega
   have hcyt := HCY.out.turned ht (fun e => by have := (hn _ e).1; omega)
   have k0 := hcyt.cell 0
   have k2 := hcyt.cell 2
   simp at k0 k2
   refine ⟨(HS3.out.cm.turned ht (fun e => (hn _ e).2.2.1 rfl)).cell, k0, k2, (HCF.out.turned ht (fun e => by have := (hn _ e).1; omega)).cell, HS3.out.co.turned ht (fun e => (hn _ e).2.2.2.1 rfl), (HS3.out.cd.turned ht (fun e => (hn _ e).2.2.2.2 rfl)).cell, (HCL3.out.turned ht (fun e => by have := (hn _ e).1; omega)).cell, fun i hi => ?_⟩
   obtain ⟨b1, b2⟩ := hci i hi
   obtain ⟨b3, b4⟩ := hcp i hi
   exact ⟨(ht.cell (p := ⟨bi, oi + i, none⟩) (by show bi < _; omega) (fun e => by have : E.B ≤ bi := (hn _ e).2.1; omega)).trans ((HBW3.out.cell (p := ⟨bi, oi + i, none⟩) (by show bi < _; omega)).trans b2), (ht.cell (p := ⟨bp, op + i, none⟩) (by show bp < _; omega) (fun e => by have : E.B ≤ bp := (hn _ e).2.1; omega)).trans ((HBW3.out.cell (p := ⟨bp, op + i, none⟩) (by show bp < _; omega)).trans b4)⟩)
  have HM0 : Hid (OfMap W3 E.bm E.n (posR E.f w 0 P)) := Lib.hid (by rw [posS_zero]; exact HS3.out.mp)
  have HSR : Hid (∀ i, i < NP → StepM E.n (posR E.f w i P) (posR E.f w (i + 1) P) (nth (lotAt E.f.lots w.length).ins i) (FB + nth P i)) := Lib.hid (fun i hi => HST.out i (by rw [HN.out]; exact hi) P (fun j hj => (HPR.out.1 j (by omega)).1) (fun j hj => HPR.out.2 i j hi (by omega) (by omega)))
  have HSB2 : Hid (∀ i, i < NP → StepM E.n (posB E.f w i P) (posB E.f w (i + 1) P) (FB + nth P i) (nth (lotAt E.f.lots w.length).ins i)) := Lib.hid (fun i hi => HSB.out i (by rw [HN.out]; exact hi) P (fun j hj => (HPR.out.1 j (by rw [HN.out] at hj; exact hj)).1) (fun j hj hne => HPR.out.2 i j hi (by rw [HN.out] at hj; exact hj) hne))
  have HFU : Hid (∀ s, posR E.f w NP P s = posS E.f (w ++ [P]) [] s) := Lib.hid (fun s => by rw [← posS_full (by rw [HKK.out]; exact hk2), HN.out])
  have HBZ : Hid (posB E.f w 0 P = posR E.f w NP P) := Lib.hid (by rw [posB_zero, HN.out])
  have HBA : Hid (posB E.f w NP P = posS E.f w []) := Lib.hid (by rw [← HN.out]; exact posB_all _ _ _)
  have HS2 : Hid (SS = settleS E.f (w ++ [P]) []) := Lib.hid (by rw [HSE.out, if_pos rfl, HPE.out])
  have HNX := Lib.hid (HNK.out HKN.out)
  rw [HPE.out] at HNX
  have HBW30 : Hid (Turned (fun q => q = E.bm ∨ K.X t q) W W3) := Lib.hid (Turned.of_below HBW3.out)
  clear hP g1 g2 g3 g4 p1 p2 p3 e2 e3 e4 e5 hci hcp
  go_upto_region 6 with fail
  go_loopw [47] (fun i' wr => ∃ i : Nat, i ≤ NP ∧ i' = .int .i64 (i : Nat) ∧ Turned (fun q => q = E.bm) W3 wr ∧ OfMap wr E.bm E.n (posR E.f w i P)) (fun i' _ => NP - (intOf i').toNat)
  case atStart => exact ⟨0, by omega, rfl, Turned.refl _ _, HM0.out⟩
  case round =>
   obtain ⟨i, hi, rfl, ht, hm⟩ := hrel
   have HT := Lib.hid ht
   have HM := Lib.hid hm
   obtain ⟨k1, k2, k3, k4, k5, k6, k7, k8⟩ := HRO.out wr (ht.mono (fun q _ e => .inl e))
   have HCO := Lib.hid k5
   clear ht hm k5
   by_cases hil : i < NP
   ·obtain ⟨k9, k10⟩ := k8 i hil
    have HSI := Lib.hid (HSR.out i hil)
    obtain ⟨hy0, hy1⟩ := HPR.out.1 i hil
    obtain ⟨y, hy⟩ : ∃ X, nth P i = X := ⟨_, rfl⟩
    obtain ⟨x, hx⟩ : ∃ X, nth (lotAt E.f.lots w.length).ins i = X := ⟨_, rfl⟩
    rw [hy] at k10 HSI hy0 hy1
    rw [hx] at k9 HSI
    have hwj : IntKind.i64.wrap (FB + y) = FB + y := IntWalk.i64_in _ (by omega)
    clear k8 k6 k7 hy hx
    go_upto_region 8 with fail
    go_still_tail 9, (by kernel_rfl)
    change wpList _ _ _ _ _ wr.drew
    go_wp2_with (go_at_call 62; refine (move_step wr.drew E.co E.bm E.n _ _ x (FB + y) HCO.out HM.out (fun e => hE.ne.2.1 e.symm) HSI.out).mono ?_; rintro e W6 ⟨⟨vv, rfl⟩, hm6, ht6⟩; have HM6 := Lib.hid hm6; have HT6 := Lib.hid ht6; clear hm6 ht6)
    go_roundw
    case rel => exact ⟨i + 1, by omega, by go_num, HT.out.trans ((show Turned (fun q => q = E.bm) wr wr.drew from ⟨rfl, rfl, rfl, Nat.le_refl _, fun _ _ _ => rfl⟩).trans HT6.out), HM6.out⟩
    case measure => simp [intOf]; omega
   ·obtain rfl : NP = i := by omega
    obtain ⟨W5, hW5⟩ : ∃ X, wr = X := ⟨_, rfl⟩
    rw [hW5] at HT HM HCO k1 k2 k3 k4 k6 k7 ⊢
    clear hW5 k8
    have HT05 : Hid (Turned (fun q => q = E.bm) W W5) := Lib.hid ((Turned.of_below HBW3.out).trans HT.out)
    have HS5 : Hid (WalkS E (w ++ [P]) [] W5) := Lib.hid (HS3.out.moved hE (X := fun _ => False) (HT.out.mono (fun q _ e => .inl e)) (fun q e => e.elim) (HM.out.eq (fun s hs => HFU.out s)))
    have HDD := Lib.hid (HNX.out W5 (.slice none 0 0) t HS5.out (.inl ⟨rfl, rfl⟩) (HKP.out _ _ _ HAT.out HT05.out) (fun q hq => ⟨(HX.out q hq).1, by have := (HX.out q hq).2; have := HT05.out.size; omega⟩))
    have hlen : (((w ++ [P]).length : Nat) : Int) = (k : Int) + 1 := by simp [HKK.out]
    rw [hlen] at HDD
    have hwk : IntKind.i64.wrap ((k : Int) + 1) = (k : Int) + 1 := IntWalk.i64_in _ (by omega)
    rw [← HS2.out] at HDD
    obtain ⟨RB, hRB⟩ : ∃ X, K.res m t SS.1 SS.2 = X := ⟨_, rfl⟩
    have HRB := Lib.hid hRB
    rw [hRB] at HDD
    clear hlen hRB
    go_upto_region 11 with (go_at_call 63; refine HDD.out.mono ?_; rintro e W6 ⟨rfl, hq9⟩; have HQ9 := Lib.hid hq9; clear hq9)
    clear k1 k2 k3 k4 k6 k7
    have HT36 : Hid (Turned (fun q => q = E.bm ∨ K.X t q) W3 W6) := Lib.hid ((HT.out.mono (fun q _ e => .inl e)).trans HQ9.out.2.1)
    have HMB : Hid (OfMap W6 E.bm E.n (posB E.f w 0 P)) := Lib.hid (by rw [HBZ.out]; exact HQ9.out.1.mp.eq (fun s hs => (HFU.out s).symm))
    obtain ⟨k1, k2, k3, k4, k5, k6, k7, k8⟩ := HRO.out W6 HT36.out
    go_upto_region 12 with fail
    clear k1 k2 k3 k4 k5 k6 k7 k8
    go_loopw [70] (fun i' wr => ∃ i : Nat, i ≤ NP ∧ i' = .int .i64 (i : Nat) ∧ Turned (fun q => q = E.bm) W6 wr ∧ OfMap wr E.bm E.n (posB E.f w i P)) (fun i' _ => NP - (intOf i').toNat)
    case atStart => exact ⟨0, by omega, rfl, Turned.refl _ _, HMB.out⟩
    case round =>
     obtain ⟨i, hi2, rfl, ht, hm⟩ := hrel
     have HT7 := Lib.hid ht
     have HM7 := Lib.hid hm
     obtain ⟨k1, k2, k3, k4, k5, k6, k7, k8⟩ := HRO.out _ (HT36.out.trans (ht.mono (fun q _ e => .inl e)))
     have HCO := Lib.hid k5
     clear ht hm k5
     by_cases hil : i < NP
     ·obtain ⟨k9, k10⟩ := k8 i hil
      have HSI := Lib.hid (HSB2.out i hil)
      obtain ⟨hy0, hy1⟩ := HPR.out.1 i hil
      obtain ⟨y, hy⟩ : ∃ X, nth P i = X := ⟨_, rfl⟩
      obtain ⟨x, hx⟩ : ∃ X, nth (lotAt E.f.lots w.length).ins i = X := ⟨_, rfl⟩
      rw [hy] at k10 HSI hy0 hy1
      rw [hx] at k9 HSI
      have hwj : IntKind.i64.wrap (FB + y) = FB + y := IntWalk.i64_in _ (by omega)
      clear k8 k6 k7 hy hx
      go_upto_region 14 with fail
      go_still_tail 9, (by kernel_rfl)
      obtain ⟨W7, hW7⟩ : ∃ X, wr = X := ⟨_, rfl⟩
      rw [hW7] at HT7 HM7 HCO k1 k2 k3 k4 k9 k10 ⊢
      change wpList _ _ _ _ _ W7.drew
      go_wp2_with (go_at_call 62; refine (move_step W7.drew E.co E.bm E.n _ _ (FB + y) x HCO.out HM7.out (fun e => hE.ne.2.1 e.symm) HSI.out).mono ?_; rintro e W8 ⟨⟨vv, rfl⟩, hm6, ht6⟩; have HM8 := Lib.hid hm6; have HT8 := Lib.hid ht6; clear hm6 ht6)
      go_roundw
      case rel => exact ⟨i + 1, by omega, by go_num, HT7.out.trans ((show Turned (fun q => q = E.bm) W7 W7.drew from ⟨rfl, rfl, rfl, Nat.le_refl _, fun _ _ _ => rfl⟩).trans HT8.out), HM8.out⟩
      case measure => simp [intOf]; omega
     ·obtain rfl : NP = i := by omega
      go_wp2
      go_ret
      rw [HRB.out]
      have htf : Turned (fun q => q = E.bm ∨ K.X t q) W3 _ := HT36.out.trans (HT7.out.mono (fun q _ e => .inl e))
      refine ⟨rfl, HS3.out.moved hE htf (fun q e => (HX.out q e).1) (by rw [← HBA.out]; exact HM7.out), HBW30.out.trans htf, HKD.out _ _ _ _ _ _ HQ9.out.2.2 HT7.out⟩
end Go.Proofs.Yteiaeaciaglmgaa
set_option linter.unusedVariables false
set_option linter.unusedSimpArgs false
namespace Go.Proofs.Yteiaeaciaglmgaa
open Go.RowKit
attribute [local go_sem] run_store_func
theorem decide_all (E : EnvW) (hE : E.Ok) (K : Client E) (hpf : E.pf = 41 ∨ E.pf = 45) (hce : EndC E K) (hcl : PartC E K) (hX0 : ∀ t q, K.X0 q → K.X t q) (hc : checkE E.f = 0) :
  ∀ (m k : Nat) (w : List (List Int)) (part : List Int), StOk E.f w part → undS E.f w part ≤ m → E.f.lots.length - w.length = k → DecideAt E K m w part := by
 intro m
 induction m using Nat.strongRecOn with
 | _ m ihm =>
  intro k
  induction k with
  | zero =>
   intro w part hso hu hk
   have hw : w.length = E.f.lots.length := by have := hso.len; omega
   have hp : part = [] := by
    have := hso.fit
    rw [lotAt_out (by omega)] at this
    exact List.eq_nil_of_length_eq_zero (by simpa using this)
   subst hp
   exact decide_end E hE K hpf hce m w hso hw
  | succ k ihk =>
   intro w part hso hu hk
   have hlt : w.length < E.f.lots.length := by omega
   refine decide_lot E hE K hpf hcl hX0 hc m w part hso hlt (fun hkn => ?_) (fun hkn hp => ?_) (fun hkn hp => ?_)
   ·have hp := hso.known hkn
    subst hp
    refine ihk _ _ (hso.nextK hlt hkn) ?_ (by simp; omega)
    have e := und_app (f := E.f) (w := w) (p := (lotAt E.f.lots w.length).perm) hlt
    rw [if_pos hkn] at e
    unfold undS at hu ⊢
    simp only [List.length_nil] at hu ⊢
    omega
   ·refine ihk _ _ (hso.nextU hlt hkn hp) ?_ (by simp; omega)
    have e := und_app (f := E.f) (w := w) (p := part) hlt
    rw [if_neg (by simp [hkn])] at e
    unfold undS at hu ⊢
    simp only [List.length_nil] at hu ⊢
    omega
   ·have e := und_app (f := E.f) (w := w) (p := part) hlt
    rw [if_neg (by simp [hkn])] at e
    obtain ⟨m', rfl⟩ : ∃ m', m = m' + 1 := ⟨m - 1, by unfold undS at hu; omega⟩
    refine ⟨m', rfl, fun i hi hh => ihm m' (by omega) (k + 1) w _ (hso.more hkn hp hi hh) ?_ hk⟩
    unfold undS at hu ⊢
    simp only [List.length_append, List.length_singleton]
    omega
set_option maxHeartbeats 4000000 in
set_option maxRecDepth 100000 in
/-- explain.walk, for a family of clients -/
theorem walk_any (B : Nat) (w : World) (vs vl : Value) (f : Flow) (hf : IsFlow B w vs vl f) (hB : B ≤ w.heap.size) (hc : checkE f = 0) (pf : Nat) (p1 p2 p3 p4 : Value) (hpf : pf = 41 ∨ pf = 45)
  (KF : ∀ E : EnvW, Client E) (tF : ∀ E : EnvW, (KF E).T) (RES : Bool) (Post : World → Prop)
  (hK : ∀ (E : EnvW) (W : World), E.Ok → E.B = B → E.f = f → E.vl = vl → E.pf = pf → E.p1 = p1 → E.p2 = p2 → E.p3 = p3 → E.p4 = p4 → w.heap.size ≤ E.cp → Below w.heap.size w W →
   EndC E (KF E) ∧ PartC E (KF E) ∧ (∀ t q, (KF E).X0 q → (KF E).X t q) ∧ (KF E).At (tF E) W ∧ (∀ q, (KF E).X (tF E) q → B ≤ q ∧ q < w.heap.size) ∧ (KF E).res (undM f f.lots.length) (tF E) (settleS f [] []).1 (settleS f [] []).2 = RES ∧
   ∀ W', Turned (fun q => q = E.bm ∨ (KF E).X (tF E) q) W W' → (KF E).Dn (undM f f.lots.length) (tF E) (settleS f [] []).1 (settleS f [] []).2 W' → Post W') :
  Calls Try.prog 40 #[.agg #[vs, vl], .func (.func pf) #[] #[p1, p2, p3, p4]] w fun e W' => e = .returned (.bool RES) ∧ Post W' := by
 have HF := Lib.hid hf
 have HKK := Lib.hid hK
 obtain ⟨rfl, ⟨hs1, hs2⟩, hl⟩ := hf
 obtain ⟨b, off, cap, ⟨a, rfl, hcap, hmax, ha⟩, hlen, hcx⟩ := hl
 obtain ⟨h0, h64, hl2, hb5, hlo⟩ := checkE_ok hc
 have hmm := @run_makeMap Try.prog
 have hmf := @run_makeFunc_any Try.prog
 obtain ⟨n, hn⟩ : ∃ n, f.senders.toNat = n := ⟨_, rfl⟩
 have HN := Lib.hid hn
 have hsn : f.senders = (n : Int) := by omega
 have HSN := Lib.hid hsn
 clear ha hcx hK hn
 rw [hsn]
 have hn64 : n ≤ 64 := by omega
 clear hsn
 go_enter Try.func40, Try.ntmps40
 go_upto_region 1 with fail
 refine wp_name (fun W1 hW1 => ?_)
 have HX1 : Hid (Box W1 w.heap.size #[.int .i64 (n : Int), .slice a f.lots.length cap]) := Lib.hid (by rw [hW1]; exact (Box.new w #[.int .i64 (n : Int), .slice a f.lots.length cap] 24).alloc _)
 have HW1 : Hid (Below w.heap.size w W1) := Lib.hid (by rw [hW1]; exact (box_below' w _).trans ((box_below' _ _).mono (by simp)))
 have HP1 : Hid (Cell1 W1 (w.heap.size + 1) (.func (.func pf) #[] #[p1, p2, p3, p4])) := Lib.hid (by
  rw [hW1]
  have h := Cell1.new (w.alloc (.cells #[.int .i64 (n : Int), .slice a f.lots.length cap] 24)) (.func (.func pf) #[] #[p1, p2, p3, p4]) 78
  rw [World.size_alloc] at h
  exact h)
 have HZ1 : Hid (W1.heap.size = w.heap.size + 1 + 1) := Lib.hid (by rw [hW1]; simp)
 clear hW1
 have x1 := HX1.out.2
 have HNL := Lib.hid (newLots_any B W1 _ _ f (HF.out.below HW1.out hB) (Nat.le_trans hB HW1.out.size) hc)
 rw [HSN.out] at HNL
 go_upto_region 3 with (go_at_call 32; refine HNL.out.mono ?_; rintro e W3 ⟨q0, rfl, hlots, hb3⟩; have HLO := Lib.hid hlots; have HB13 := Lib.hid hb3; clear hlots hb3)
 refine wp_name (fun W5 hW5 => ?_)
 have HBX5 : Hid (Below W3.heap.size W3 W5) := Lib.hid (by rw [hW5]; exact (((box_below' W3 _).alloc (by simp) _).alloc (by simp; omega) _))
 have HCX : Hid (Cell1 W5 W3.heap.size (.pointer (some ⟨q0, 0, none⟩))) := Lib.hid (by rw [hW5]; exact ((Cell1.new W3 _ _).alloc _).alloc _)
 have HCA : Hid (Cell1 W5 (W3.heap.size + 1 + 1) (.map (some (W3.heap.size + 1)))) := Lib.hid (by
  rw [hW5]
  have h := Cell1.new ((W3.alloc (.cells #[.pointer (some ⟨q0, 0, none⟩)] 60)).alloc (.map #[] 0)) (.map (some (W3.heap.size + 1))) 62
  simp only [World.size_alloc] at h
  exact h)
 have HM5 : Hid (IntMap W5 (W3.heap.size + 1) []) := Lib.hid (by
  rw [hW5]
  have h := IntMap.made (W3.alloc (.cells #[.pointer (some ⟨q0, 0, none⟩)] 60))
  rw [World.size_alloc] at h
  exact h.alloc _)
 have HZ5 : Hid (W5.heap.size = W3.heap.size + 1 + 1 + 1) := Lib.hid (by rw [hW5]; simp)
 have HLO5 := Lib.hid (HLO.out.ext HBX5.out)
 have HW3 : Hid (Below w.heap.size w W3) := Lib.hid (HW1.out.trans (HB13.out.mono HW1.out.size))
 have HW5 : Hid (Below w.heap.size w W5) := Lib.hid (HW3.out.trans (HBX5.out.mono HW3.out.size))
 have HP5 := Lib.hid ((HP1.out.ext HB13.out).ext HBX5.out)
 have HX5 := Lib.hid ((HX1.out.ext HB13.out).ext HBX5.out)
 have x5 := HX5.out.2
 have HNUM : Hid (w.heap.size + 1 < W1.heap.size ∧ W1.heap.size ≤ W3.heap.size) := Lib.hid ⟨HP1.out.lt, HB13.out.size⟩
 obtain ⟨s3, hs3⟩ : ∃ x, W3.heap.size = x := ⟨_, rfl⟩
 rw [hs3] at HCX HCA HM5 HZ5 HLO5 HNUM ⊢
 clear hW5 hs3 HLO HBX5 HB13 HX1 x1
 go_upto_region 4 with fail
 clear x5
 go_loopw [15] (fun i' wr => ∃ (i : Nat) (al : AL), i ≤ n ∧ i' = .int .i64 (i : Nat) ∧ Turned (fun q => q = s3 + 1) W5 wr ∧ IntMap wr (s3 + 1) al ∧ Sat i (fun s => (s : Int)) al) (fun i' _ => n - (intOf i').toNat)
 case atStart => exact ⟨0, [], by omega, rfl, Turned.refl _ _, HM5.out, Sat.nil _⟩
 case round =>
  obtain ⟨i, al, hi, rfl, ht, hm, hsat⟩ := hrel
  have HT := Lib.hid ht
  have HM := Lib.hid hm
  have HSA := Lib.hid hsat
  have hnu := HNUM.out
  have c3 := (HCA.out.turned ht (by omega)).cell
  clear ht hm hsat
  by_cases hil : i < n
  ·have HS2 := Lib.hid (HSA.out.more (fun s hs => by show (s : Int) ≠ (i : Int); omega))
   go_wp2_with (at_mapUpdate; refine wpList_update_ints (x := (i : Int)) (v := .int .i64 (i : Int)) rfl _ _ _ rfl Try.underlying62 Try.underlying3 rfl HM.out rfl rfl ?_; intro w8 hs8 hg8 hz8; have HS8 := Lib.hid hs8; have HG8 := Lib.hid hg8; clear hs8 hg8 hz8)
   go_roundw
   case rel => exact ⟨i + 1, _, by omega, by go_num, HT.out.trans (Turned.of_grown HG8.out (fun q e => by simpa using e.symm)), HS8.out, HS2.out⟩
   case measure => simp [intOf]; omega
  ·obtain rfl : i = n := by omega
   obtain ⟨W6, hW6⟩ : ∃ x, wr = x := ⟨_, rfl⟩
   rw [hW6] at HT HM ⊢
   have HLO6 := Lib.hid (HLO5.out.turned HT.out (fun q a1 a2 e => by omega))
   have HCX6 := Lib.hid (HCX.out.turned HT.out (by omega))
   have HCA6 := Lib.hid (HCA.out.turned HT.out (by omega))
   have HP6 := Lib.hid (HP5.out.turned HT.out (by omega))
   have HW6 : Hid (Below w.heap.size w W6) := Lib.hid (HW5.out.trans (HT.out.below HW5.out.size (fun q hq e => by omega)))
   have HZ6 : Hid (s3 + 1 + 1 + 1 ≤ W6.heap.size) := Lib.hid (by have := HT.out.size; have := HZ5.out; omega)
   clear hW6 hnu c3
   go_upto_region 11 with fail
   refine wp_name (fun W8 hW8 => ?_)
   have HB8 : Hid (Below W6.heap.size W6 W8) := Lib.hid (by rw [hW8]; exact (box_below' W6 _).alloc (by simp) _)
   have HCM : Hid (Cell1 W8 W6.heap.size (.func (.func 62) #[] #[.pointer (some ⟨s3 + 1 + 1, 0, none⟩)])) := Lib.hid (by rw [hW8]; exact (Cell1.new W6 _ _).alloc _)
   have HCD : Hid (Cell1 W8 (W6.heap.size + 1) (.func (.func 63) #[] #[.pointer (some ⟨s3, 0, none⟩), .pointer (some ⟨w.heap.size + 1, 0, none⟩), .pointer (some ⟨s3 + 1 + 1, 0, none⟩), .pointer (some ⟨W6.heap.size, 0, none⟩), .pointer (some ⟨W6.heap.size + 1, 0, none⟩)])) := Lib.hid (by
    rw [hW8]
    have h := Cell1.new (W6.alloc (.cells #[.func (.func 62) #[] #[.pointer (some ⟨s3 + 1 + 1, 0, none⟩)]] 98)) (.func (.func 63) #[] #[.pointer (some ⟨s3, 0, none⟩), .pointer (some ⟨w.heap.size + 1, 0, none⟩), .pointer (some ⟨s3 + 1 + 1, 0, none⟩), .pointer (some ⟨W6.heap.size, 0, none⟩), .pointer (some ⟨W6.heap.size + 1, 0, none⟩)]) 99
    rw [World.size_alloc] at h
    exact h)
   have HZ8 : Hid (W8.heap.size = W6.heap.size + 1 + 1) := Lib.hid (by rw [hW8]; simp)
   clear hW8
   have hnu := HNUM.out
   have hz6 := HZ6.out
   have hz8 := HZ8.out
   have hz1 := HZ1.out
   have HWB8 : Hid (Below w.heap.size w W8) := Lib.hid (HW6.out.trans (HB8.out.mono HW6.out.size))
   obtain ⟨E, hEE⟩ : ∃ E : EnvW, E = ⟨B, W8.heap.size, W1.heap.size, s3, q0, s3, w.heap.size + 1, s3 + 1 + 1, s3 + 1, W6.heap.size, W6.heap.size + 1, pf, p1, p2, p3, p4, .slice a f.lots.length cap, f⟩ := ⟨_, rfl⟩
   have hE : E.Ok := by
    subst hEE
    exact ⟨by show B ≤ w.heap.size + 1; omega, by show w.heap.size + 1 < W1.heap.size; omega, by show W1.heap.size ≤ s3; omega, ⟨by show s3 ≤ s3; omega, by show s3 < W8.heap.size; omega⟩, ⟨by show s3 ≤ s3 + 1 + 1; omega, by show s3 + 1 + 1 < W8.heap.size; omega⟩, ⟨by show s3 ≤ s3 + 1; omega, by show s3 + 1 < W8.heap.size; omega⟩, ⟨by show s3 ≤ W6.heap.size; omega, by show W6.heap.size < W8.heap.size; omega⟩, ⟨by show s3 ≤ W6.heap.size + 1; omega, by show W6.heap.size + 1 < W8.heap.size; omega⟩,
     ⟨by show s3 + 1 ≠ s3; omega, by show s3 + 1 ≠ s3 + 1 + 1; omega, by show s3 + 1 ≠ W6.heap.size; omega, by show s3 + 1 ≠ W6.heap.size + 1; omega⟩⟩
   obtain ⟨y1, y2, y3, y4, y5, y6, y7⟩ := HKK.out E W8 hE (by subst hEE; rfl) (by subst hEE; rfl) (by subst hEE; rfl) (by subst hEE; rfl) (by subst hEE; rfl) (by subst hEE; rfl) (by subst hEE; rfl) (by subst hEE; rfl) (by subst hEE; show w.heap.size ≤ w.heap.size + 1; omega) HWB8.out
   have hS : WalkS E [] [] W8 := by
    subst hEE
    exact ⟨HLO6.out.ext HB8.out, (HF.out.below HWB8.out hB).2.2, HCX6.out.ext HB8.out, HP6.out.ext HB8.out, HCA6.out.ext HB8.out, HCM.out, HCD.out, ⟨al, HM.out.ext HB8.out, by
     show Sat f.senders.toNat _ al
     rw [HN.out]
     exact HSA.out.eq (fun s hs => by
      rw [← posS_zero f [] []]
      unfold posR
      rw [mv_zero]
      exact (pos_zero f [] s).symm)⟩, Nat.le_refl _⟩
   have hfe : E.f = f := by subst hEE; rfl
   have hda := decide_all E hE (KF E) (by subst hEE; exact hpf) y1 y2 y3 (by rw [hfe]; exact hc) (undM f f.lots.length) f.lots.length [] [] (by rw [hfe]; exact StOk.start f) (by rw [hfe]; unfold undS; simp) (by rw [hfe]; simp) W8 (.slice none 0 0) (tF E) hS (.inl ⟨rfl, rfl⟩) y4 (fun q hq => ⟨.inl (by
    have h := y5 q hq
    subst hEE
    exact ⟨h.1, by show q < W1.heap.size; omega, by show q ≠ w.heap.size + 1; omega⟩), by have := y5 q hq; omega⟩)
   rw [hfe, y6] at hda
   have HY7 := Lib.hid y7
   have hcs : E.cx = s3 ∧ E.cp = w.heap.size + 1 ∧ E.co = s3 + 1 + 1 ∧ E.cm = W6.heap.size ∧ E.cd = W6.heap.size + 1 := by subst hEE; exact ⟨rfl, rfl, rfl, rfl, rfl⟩
   obtain ⟨z1, z2, z3, z4, z5⟩ := hcs
   rw [z1, z2, z3, z4, z5] at hda
   have HDA := Lib.hid hda
   have n1 := HCD.out.cell
   clear hda hS y1 y2 y3 y4 y5 y6 y7 hE hfe z1 z2 z3 z4 z5 hnu hz6 hz8 hz1 hEE
   go_wp2_with (go_at_call 63; refine HDA.out.mono ?_; rintro e w9 ⟨rfl, hq9⟩; have HQ9 := Lib.hid hq9; clear hq9)
   go_ret
   exact ⟨rfl, HY7.out _ HQ9.out.2.1 HQ9.out.2.2⟩
end Go.Proofs.Yteiaeaciaglmgaa
set_option linter.unusedVariables false
set_option linter.unusedSimpArgs false
namespace Go.Proofs.Yteiaeaciaglmgaa
open Go.RowKit
theorem settle_settled {f : Flow} {w : List (List Int)} {part : List Int} (h : w.length = f.lots.length ∨ w.length < f.lots.length ∧ (lotAt f.lots w.length).known = false ∧ part.length < (lotAt f.lots w.length).ins.length) : settleS f w part = (w, part) := by
 rcases h with h | ⟨h1, h2, h3⟩
 ·exact settle_end h
 ·rw [settle_lot h1, h2, if_neg (by decide), if_pos h3]
/-- a cell of four values that is a denial -/
def DenC (B : Nat) (W : World) (q : Nat) (d : Den) : Prop := ∃ y0 y1 y2 y3, CellsN W q #[y0, y1, y2, y3] ∧ IsDen B W [y0, y1, y2, y3] d
theorem DenC.turned {B : Nat} {W W' : World} {q : Nat} {d : Den} (h : DenC B W q d) {X : Nat → Prop} (ht : Turned X W W') (hq : ¬ X q) (hB : B ≤ W.heap.size) (hX : ∀ k, k < B → ¬ X k) : DenC B W' q d := by
 obtain ⟨y0, y1, y2, y3, h1, h2⟩ := h
 exact ⟨y0, y1, y2, y3, h1.turned ht hq, h2.below (ht.below hB hX) (Nat.le_refl _)⟩
set_option maxHeartbeats 4000000 in
set_option maxRecDepth 100000 in
/-- explain.Refutes: ready -/
theorem refready_any (B : Nat) (W : World) (qm qn : Nat) (p : Den) (i : Nat) (hm : DenC B W qm p) (hn : ∃ y0 y1 y2 y3, CellsN W qn #[y0, y1, y2, y3]) (hi : i < p.kids.length) (hne : qm ≠ qn) (hB : B ≤ qn) :
  Calls Try.prog 46 #[.int .i64 (i : Int), .pointer (some ⟨qm, 0, none⟩), .pointer (some ⟨qn, 0, none⟩)] W fun e W' => e = .returned (.bool true) ∧ DenC B W' qn (denAt p.kids i) ∧ Turned (fun q => q = qn) W W' := by
 obtain ⟨y0, y1, y2, y3, h1, h2⟩ := hm
 obtain ⟨z0, z1, z2, z3, h3⟩ := hn
 obtain ⟨ak, ck, e, _, _, _, hkl, bk, ok, hak, hkk⟩ := h2.form
 simp only [List.cons.injEq, and_true] at e
 obtain ⟨rfl, rfl, rfl, rfl⟩ := e
 obtain ⟨hb, cs, hc, hd⟩ := hkk i hi
 obtain rfl : ak = some ⟨bk, ok, none⟩ := by rcases hak with h | h; exact h; omega
 obtain ⟨ak2, ck2, rfl, _⟩ := id hd.form
 have HD := Lib.hid hd
 have c0 := hc 0 _ rfl
 have c1 := hc 1 _ rfl
 have c2 := hc 2 _ rfl
 have c3 := hc 3 _ rfl
 have m2 := h1.cell 2
 simp at m2
 have f0 := h3.free 0
 have f1 := h3.free 1
 have f2 := h3.free 2
 have f3 := h3.free 3
 have n0 := h3.cell 0
 have n1 := h3.cell 1
 have n2 := h3.cell 2
 have n3 := h3.cell 3
 simp at n0 n1 n2 n3
 have H3 := Lib.hid h3
 have hlt := h3.ltN
 obtain ⟨D, hD⟩ : ∃ D, denAt p.kids i = D := ⟨_, rfl⟩
 rw [hD] at HD c0 c1 c2 c3 ⊢
 obtain ⟨nk, hnk⟩ : ∃ n, p.kids.length = n := ⟨_, rfl⟩
 rw [hnk] at m2 hi
 simp only [Nat.add_zero] at c0
 clear hc hd hkk hak h1 h2 h3 hD hnk hkl
 go_enter Try.func46, Try.ntmps46
 go_wp2
 go_ret
 have hg := fun (w : World) k v => Turned.of_grown (X := fun q => q = qn) (grown_setCell w ⟨qn, k, none⟩ v) (fun q e => by simpa using e.symm)
 have ht := (((hg W 0 (.int .i64 D.lot)).trans (hg _ 1 (.int .i64 D.inn))).trans (hg _ 2 (.slice ak2 D.kids.length ck2))).trans (hg _ 3 (.int .i64 D.sender))
 refine ⟨rfl, ⟨_, _, _, _, (((H3.out.set 0 _).set 1 _).set 2 _).set 3 _, ?_⟩, ht⟩
 exact HD.out.keep (fun q hq => ht.block q (by omega) (fun e => by omega))
end Go.Proofs.Yteiaeaciaglmgaa
set_option linter.unusedVariables false
set_option linter.unusedSimpArgs false
namespace Go.Proofs.Yteiaeaciaglmgaa
open Go.RowKit
set_option maxHeartbeats 4000000 in
set_option maxRecDepth 100000 in
/-- explain.Deny: ready -/
theorem denready_any (W : World) (qm qt b o bk ok nk ck : Nat) (v : Value) (i : Nat) (hm : Cell1 W qm (.pointer (some ⟨b, o, none⟩))) (hk : W.cell? ⟨b, o + 2, none⟩ = some (.slice (some ⟨bk, ok, none⟩) nk ck)) (ht : Cell1 W qt v) (hi : i < nk) :
  Calls Try.prog 43 #[.int .i64 (i : Int), .pointer (some ⟨qm, 0, none⟩), .pointer (some ⟨qt, 0, none⟩)] W fun e W' => e = .returned (.bool true) ∧ Cell1 W' qt (.pointer (some ⟨bk, ok + i * 4, none⟩)) ∧ Turned (fun q => q = qt) W W' := by
 have c0 := hm.cell
 have c1 := ht.cell
 have f1 := ht.free
 have HT := Lib.hid ht
 clear hm ht
 go_enter Try.func43, Try.ntmps43
 go_wp2
 go_ret
 exact ⟨rfl, HT.out.set _, Turned.of_grown (grown_setCell W ⟨qt, 0, none⟩ _) (fun q e => by simpa using e.symm)⟩
end Go.Proofs.Yteiaeaciaglmgaa
set_option linter.unusedVariables false
set_option linter.unusedSimpArgs false
namespace Go.Proofs.Yteiaeaciaglmgaa
open Go.RowKit
set_option maxHeartbeats 8000000 in
set_option maxRecDepth 100000 in
theorem refleaf_any (B C1 D1 : Nat) (W : World) (cn cF cX cA q1 bm : Nat) (vl va lotV inV eachV : Value) (f : Flow) (zs : List Int) (p : Den) (P : Nat → Int) (hd : DenC B W cn p) (hF : Box W cF #[.int .i64 f.senders, vl]) (hX : Cell1 W cX (.pointer (some ⟨q1, 0, none⟩))) (hA : Cell1 W cA va) (hlo : LotsAt C1 D1 W q1 vl f) (hc : checkE f = 0) (hz : IsInts B W va zs)
  (hzl : (zs.length : Int) = f.senders) (hof : OfMap W bm f.senders.toNat P) (hB : B ≤ W.heap.size) (hl : p.lot = -1) :
  Calls Try.prog 45 #[.map (some bm), lotV, inV, eachV, .pointer (some ⟨cn, 0, none⟩), .pointer (some ⟨cF, 0, none⟩), .pointer (some ⟨cX, 0, none⟩), .pointer (some ⟨cA, 0, none⟩)] W fun e W' =>
   e = .returned (.bool (decide (p.inn = 0) && (decide (p.kids.length = 0) && (decide (0 ≤ p.sender) && (decide (p.sender < f.senders) && !leadE f (P p.sender.toNat) (nth zs p.sender.toNat)))))) ∧ Below W.heap.size W W' := by
 obtain ⟨y0, y1, y2, y3, h1, h2⟩ := hd
 obtain ⟨ak, ck, e, _, _, hs64, hkl, bk, ok, hak, hkk⟩ := h2.form
 simp only [List.cons.injEq, and_true] at e
 obtain ⟨rfl, rfl, rfl, rfl⟩ := e
 rw [hl] at h1
 obtain ⟨l, hl1, hl2⟩ := hof
 have hbm := hl1.lt
 have HL := Lib.hid hl1
 have HS := Lib.hid hl2
 have HLO := Lib.hid hlo
 obtain ⟨bz, oz, cz, ⟨az, rfl, hz1, hz2, hz3⟩, hz4, hz5, hzc⟩ := hz
 have HZ3 := Lib.hid hz3
 have HZC := Lib.hid hzc
 have HZL := Lib.hid hzl
 have HF := Lib.hid hF
 have HX := Lib.hid hX
 have HA := Lib.hid hA
 have HBW := Lib.hid hB
 have m0 := h1.cell 0
 have m1 := h1.cell 1
 have m2 := h1.cell 2
 have m3 := h1.cell 3
 simp at m0 m1 m2 m3
 obtain ⟨RR, hRR⟩ : ∃ x, (decide (p.inn = 0) && (decide (p.kids.length = 0) && (decide (0 ≤ p.sender) && (decide (p.sender < f.senders) && !leadE f (P p.sender.toNat) (nth zs p.sender.toNat))))) = x := ⟨_, rfl⟩
 rw [hRR]
 have HRR := Lib.hid hRR
 clear hRR
 obtain ⟨i, hi⟩ : ∃ x, p.inn = x := ⟨_, rfl⟩
 obtain ⟨s, hs⟩ : ∃ x, p.sender = x := ⟨_, rfl⟩
 obtain ⟨nk, hnk⟩ : ∃ x, p.kids.length = x := ⟨_, rfl⟩
 rw [hi] at HRR m1
 rw [hs] at HRR m3 hs64
 rw [hnk] at HRR m2 hkl
 clear h1 h2 hl1 hl2 hlo hz3 hzc hzl hF hX hA hB hi hs hnk hak hkk hl
 go_enter Try.func45, Try.ntmps45
 go_upto_region 2 with fail
 refine wp_name (fun W1 hW1 => ?_)
 have HB1 : Hid (Below W.heap.size W W1) := Lib.hid (by rw [hW1]; exact box_below' W _)
 have HD1 : Hid (CellsN W1 W.heap.size #[.int .i64 (-1), .int .i64 i, .slice ak nk ck, .int .i64 s]) := Lib.hid (by rw [hW1]; exact CellsN.new W _ _)
 clear hW1 m0 m1 m2 m3
 have n0 := HD1.out.cell 0
 have n1 := HD1.out.cell 1
 have n2 := HD1.out.cell 2
 have n3 := HD1.out.cell 3
 simp at n0 n1 n2 n3
 have n4 := (HF.out.ext HB1.out).2 0
 simp at n4
 by_cases hi0 : i = 0
 ·subst hi0
  by_cases hk0 : nk = 0
  ·subst hk0
   by_cases hs0 : 0 ≤ s
   ·have hs01 : decide (s < 0) = false := decide_eq_false (by omega)
    by_cases hss : s < f.senders
    ·have hss1 : decide (f.senders ≤ s) = false := decide_eq_false (by omega)
     obtain ⟨sn, rfl⟩ : ∃ n : Nat, s = n := ⟨s.toNat, by omega⟩
     have HRB : Hid (RR = !leadE f (P sn) (nth zs sn)) := Lib.hid (by rw [← HRR.out]; simp [hss])
     have HSN : Hid (sn < f.senders.toNat) := Lib.hid (by omega)
     clear HRR
     go_upto_region 5 with fail
     have HL1 := Lib.hid (HL.out.ext HB1.out)
     obtain ⟨n, hn⟩ : ∃ n, f.senders.toNat = n := ⟨_, rfl⟩
     have HN := Lib.hid hn
     rw [hn] at HS HSN
     clear hn hs0 hs01 hss hss1 n0 n1 n2 n4
     go_wp2_with (refine wpList_range_ints rfl (.tmp 41) rfl Try.underlying62 rfl HL1.out ?_; intro w9 hit9 hb9 hz9; have HIT9 := Lib.hid hit9; have HB9 := Lib.hid hb9; clear hit9 hb9 hz9)
     obtain ⟨r, hr⟩ : ∃ x, W1.heap.size = x := ⟨_, rfl⟩
     have HR := Lib.hid hr
     have hsz1 := HB1.out.size
     rw [hr] at HIT9 hsz1 ⊢
     rw [hr] at HB9
     have hne : r ≠ bm := by omega
     clear hr
     simp only [Act.put, List.setIfInBounds_toArray, List.set_cons_zero, List.set_cons_succ]
     go_loopw [] (fun W' => ∃ left : AL, MapIter W' bm r l left ∧ (∀ p ∈ left, p ∈ l) ∧ Below r W1 W' ∧ ((P sn, Value.int .i64 (sn : Int)) ∉ left → leadE f (P sn) (nth zs sn) = false)) (fun W' => iterLeft W' bm r)
     case atStart => exact ⟨l, HIT9.out, fun p hp => hp, HB9.out, fun hn => absurd ((HS.out.2 _ _).2 ⟨sn, HSN.out, rfl, rfl⟩) hn⟩
     case round =>
      obtain ⟨left, hit, hsub, hbl, hdone⟩ := hrel
      have HIT := Lib.hid hit
      have HLEFT := Lib.hid hit.left
      have HSUB := Lib.hid hsub
      have HBL := Lib.hid hbl
      have HDO := Lib.hid hdone
      clear hit hsub hbl hdone HIT9 HB9
      by_cases hlf : left = []
      ·go_wp2_with (refine wpList_next_doneA rfl (.tmp 42) rfl rfl HIT.out hne hlf ?_)
       go_ret
       exact ⟨by rw [HRB.out, HDO.out (by rw [hlf]; simp)]; rfl, HB1.out.trans ((HR.out ▸ HBL.out).mono HB1.out.size)⟩
      ·go_upto_region 8 with (refine wpList_next_moreA rfl (.tmp 42) rfl rfl HIT.out hne hlf ?_; intro A x v B' w3 hl2 hit3 hg3 hz3 hen; have HIT3 := Lib.hid hit3; have HG3 := Lib.hid hg3; have HL2 := Lib.hid hl2; obtain ⟨s, hs, hps, rfl⟩ := (HS.out.2 x v).1 (HSUB.out _ (by rw [hl2]; simp)); have HPS := Lib.hid hps; clear hit3 hg3 hz3 hl2 hps)
       have hl2 := HL2.out
       have hps := HPS.out
       have HB3 : Hid (Below r W1 w3) := Lib.hid (HBL.out.grown HG3.out (by have := HBL.out.size; rw [← HR.out]; exact this) (fun q hq => by cases hq; exact Nat.le_refl _))
       have HLN : Hid ((A ++ B').length < left.length) := Lib.hid (by rw [hl2]; simp)
       have HLF3 := Lib.hid HIT3.out.left
       have HSUB2 : Hid (∀ p ∈ A ++ B', p ∈ l) := Lib.hid fun p hp => HSUB.out p (by
        rw [hl2]
        rcases List.mem_append.1 hp with h | h
        ·exact List.mem_append_left _ h
        ·exact List.mem_append_right _ (List.mem_cons_of_mem _ h))
       have HIN2 : Hid (sn ≠ s → (P sn, Value.int .i64 (sn : Int)) ∉ A ++ B' → (P sn, Value.int .i64 (sn : Int)) ∉ left) := Lib.hid fun hjs hn h => hn (by
        rw [hl2] at h
        rcases List.mem_append.1 h with h | h
        ·exact List.mem_append_left _ h
        ·rcases List.mem_cons.1 h with h | h
         ·simp only [Prod.mk.injEq, Value.int.injEq] at h
          exact absurd (by have := h.2; omega) hjs
         ·exact List.mem_append_right _ h)
       have hbs : s < zs.length := by have := HZL.out; have := HN.out; omega
       have hn3 := (HD1.out.cell 3)
       simp at hn3
       have c0 := (HB3.out.cell (p := ⟨W.heap.size, 3, none⟩) (by have := HD1.out.ltN; rw [← HR.out]; exact this)).trans hn3
       clear hl2 n3 hn3
       by_cases hes : s = sn
       ·subst hes
        obtain rfl : az = some ⟨bz, oz, none⟩ := by rcases HZ3.out with h | h; exact h; omega
        have hzq := HZC.out s hbs
        have hbW := HBW.out
        have HB03 : Hid (Below W.heap.size W w3) := Lib.hid (HB1.out.trans ((HR.out ▸ HB3.out).mono HB1.out.size))
        have c1 := (HB03.out.cell (p := ⟨bz, oz + s, none⟩) (by have := hzq.1; show bz < _; omega)).trans hzq.2
        have c2 := (HX.out.ext HB03.out).cell
        have c3 := (HA.out.ext HB03.out).cell
        have HLOT := Lib.hid (HLO.out.ext HB03.out)
        obtain ⟨LE, hLE⟩ : ∃ y, leadE f (P s) (nth zs s) = y := ⟨_, rfl⟩
        have HLE := Lib.hid hLE
        rw [hps] at hLE
        have HLE2 := Lib.hid hLE
        obtain ⟨xz, hxz⟩ : ∃ y, nth zs s = y := ⟨_, rfl⟩
        rw [hxz] at c1
        rw [hxz] at HLE2
        rw [HLE.out] at HRB
        have HLD := Lib.hid (fun n => leads_any C1 D1 (w3.drewN n) q1 vl f x xz (HLOT.out.ext (below_drewN (Below.refl _ _) n)) hc)
        rw [HLE2.out] at HLD
        clear hps hLE hxz hzq hbW
        have heq : ((s : Int) == (s : Int)) = true := by simp
        cases LE
        ·go_wp2
         go_quiet ((go_at_call 33; exact Calls.quiet_of_same (HLD.out _)))
         go_wp2
         go_roundw
         case rel => exact ⟨A ++ B', HIT3.out, HSUB2.out, below_drewN HB3.out _, fun _ => HLE.out⟩
         case measure => exact Nat.lt_of_le_of_lt (Nat.le_of_eq HLF3.out) (by rw [HLEFT.out]; exact HLN.out)
        ·go_wp2
         go_quiet ((go_at_call 33; exact Calls.quiet_of_same (HLD.out _)))
         go_wp2
         go_ret
         exact ⟨by rw [HRB.out]; rfl, HB03.out.trans ((below_drewN (Below.refl _ _) _).mono HB03.out.size)⟩
       ·have heq : ((s : Int) == (sn : Int)) = false := by simp; omega
        clear hps
        go_wp2
        go_quiet (fail)
        go_wp2
        go_roundw
        case rel => exact ⟨A ++ B', HIT3.out, HSUB2.out, below_drewN HB3.out _, fun hn => HDO.out (HIN2.out (fun e => hes e.symm) hn)⟩
        case measure => exact Nat.lt_of_le_of_lt (Nat.le_of_eq HLF3.out) (by rw [HLEFT.out]; exact HLN.out)
    ·have hss1 : decide (f.senders ≤ s) = true := decide_eq_true (by omega)
     have HRF : Hid (RR = false) := Lib.hid (by rw [← HRR.out, decide_eq_false hss]; simp)
     go_wp2
     go_ret
     exact ⟨by rw [HRF.out]; rfl, HB1.out⟩
   ·have hs01 : decide (s < 0) = true := decide_eq_true (by omega)
    have HRF : Hid (RR = false) := Lib.hid (by rw [← HRR.out, decide_eq_false hs0]; simp)
    go_wp2
    go_ret
    exact ⟨by rw [HRF.out]; rfl, HB1.out⟩
  ·have hk01 : decide ((0 : Int) < (nk : Int)) = true := decide_eq_true (by omega)
   have HRF : Hid (RR = false) := Lib.hid (by rw [← HRR.out, decide_eq_false hk0]; simp)
   go_wp2
   go_ret
   exact ⟨by rw [HRF.out]; rfl, HB1.out⟩
 ·have hi01 : (i != 0) = true := by simpa using hi0
  have HRF : Hid (RR = false) := Lib.hid (by rw [← HRR.out, decide_eq_false hi0]; rfl)
  go_wp2
  go_ret
  exact ⟨by rw [HRF.out]; rfl, HB1.out⟩
end Go.Proofs.Yteiaeaciaglmgaa
set_option linter.unusedVariables false
set_option linter.unusedSimpArgs false
namespace Go.Proofs.Yteiaeaciaglmgaa
open Go.RowKit
set_option maxHeartbeats 8000000 in
set_option maxRecDepth 100000 in
/-- all lots are done, and the denial names one -/
theorem refend_any (B : Nat) (W : World) (cn cF cX cA bm : Nat) (p : Den) (inV eachV : Value) (hd : DenC B W cn p) (hl : p.lot ≠ -1) :
  Calls Try.prog 45 #[.map (some bm), .int .i64 (-1), inV, eachV, .pointer (some ⟨cn, 0, none⟩), .pointer (some ⟨cF, 0, none⟩), .pointer (some ⟨cX, 0, none⟩), .pointer (some ⟨cA, 0, none⟩)] W fun e W' =>
   e = .returned (.bool false) ∧ Below W.heap.size W W' := by
 obtain ⟨y0, y1, y2, y3, h1, h2⟩ := hd
 obtain ⟨ak, ck, e, _⟩ := h2.form
 simp only [List.cons.injEq, and_true] at e
 obtain ⟨rfl, rfl, rfl, rfl⟩ := e
 have m0 := h1.cell 0
 have m1 := h1.cell 1
 have m2 := h1.cell 2
 have m3 := h1.cell 3
 simp at m0 m1 m2 m3
 obtain ⟨l, hle⟩ : ∃ x, p.lot = x := ⟨_, rfl⟩
 rw [hle] at m0 hl
 clear h1 h2 hle
 have hl1 : (l == -1) = false := by simpa using hl
 go_enter Try.func45, Try.ntmps45
 go_upto_region 2 with fail
 refine wp_name (fun W1 hW1 => ?_)
 have HB1 : Hid (Below W.heap.size W W1) := Lib.hid (by rw [hW1]; exact box_below' W _)
 have HD1 : Hid (CellsN W1 W.heap.size #[.int .i64 l, .int .i64 p.inn, .slice ak p.kids.length ck, .int .i64 p.sender]) := Lib.hid (by rw [hW1]; exact CellsN.new W _ _)
 clear hW1 m0 m1 m2 m3
 have n0 := HD1.out.cell 0
 simp at n0
 go_wp2
 go_quiet (fail)
 go_wp2
 go_ret
 exact ⟨rfl, below_drewN HB1.out _⟩
set_option maxHeartbeats 8000000 in
set_option maxRecDepth 100000 in
/-- a lot is next, and the denial does not fit -/
theorem refmis_any (B : Nat) (W : World) (cn cF cX cA bm k it : Nat) (vl : Value) (f : Flow) (p : Den) (eachV : Value) (hd : DenC B W cn p) (hF : Box W cF #[.int .i64 f.senders, vl]) (hlo : IsLots B W vl f.lots) (hB : B ≤ W.heap.size) (hc : checkE f = 0) (hk : k < f.lots.length) (hit : it ≤ (lotAt f.lots k).ins.length) (hl : p.lot ≠ -1)
  (hR : (decide (p.lot = (k : Nat)) && (decide (p.inn = (it : Nat)) && (decide (p.sender = 0) && decide ((p.kids.length : Int) = (lotAt f.lots k).ins.length - it)))) = false) :
  Calls Try.prog 45 #[.map (some bm), .int .i64 (k : Int), .int .i64 (it : Int), eachV, .pointer (some ⟨cn, 0, none⟩), .pointer (some ⟨cF, 0, none⟩), .pointer (some ⟨cX, 0, none⟩), .pointer (some ⟨cA, 0, none⟩)] W fun e W' =>
   e = .returned (.bool false) ∧ Below W.heap.size W W' := by
 obtain ⟨y0, y1, y2, y3, h1, h2⟩ := hd
 obtain ⟨ak, ck, e, _⟩ := h2.form
 simp only [List.cons.injEq, and_true] at e
 obtain ⟨rfl, rfl, rfl, rfl⟩ := e
 have m0 := h1.cell 0
 have m1 := h1.cell 1
 have m2 := h1.cell 2
 have m3 := h1.cell 3
 simp at m0 m1 m2 m3
 obtain ⟨b, off, cap, ⟨a, rfl, hL1, hL2, hL3⟩, hL4, hL5⟩ := hlo
 obtain rfl : a = some ⟨b, off, none⟩ := by rcases hL3 with h | h; exact h; omega
 obtain ⟨vi, vk, vp, q1, _, _, hli, _, _⟩ := hL5 k hk
 obtain ⟨ai, ci, rfl⟩ := hli.form
 have HQ1 := Lib.hid q1
 have hni : (lotAt f.lots k).ins.length ≤ 50000 := ins_small hc hk
 have h2000 := (checkE_ok hc).2.2.1
 have HF := Lib.hid hF
 obtain ⟨l, hle⟩ : ∃ x, p.lot = x := ⟨_, rfl⟩
 obtain ⟨i, hie⟩ : ∃ x, p.inn = x := ⟨_, rfl⟩
 obtain ⟨s, hse⟩ : ∃ x, p.sender = x := ⟨_, rfl⟩
 obtain ⟨nk, hnk⟩ : ∃ x, p.kids.length = x := ⟨_, rfl⟩
 obtain ⟨N, hN⟩ : ∃ x, (lotAt f.lots k).ins.length = x := ⟨_, rfl⟩
 rw [hle] at m0 hl hR
 rw [hie] at m1 hR
 rw [hse] at m3 hR
 rw [hnk] at m2 hR
 rw [hN] at hR HQ1 hni hit
 have HRR := Lib.hid hR
 clear h1 h2 hle hie hse hnk hN hR hF hL3 hL5 q1 hli
 have hl1 : (l == -1) = false := by simpa using hl
 have hkl : decide ((k : Int) < 0) = false := decide_eq_false (by omega)
 go_enter Try.func45, Try.ntmps45
 go_upto_region 2 with fail
 refine wp_name (fun W1 hW1 => ?_)
 have HB1 : Hid (Below W.heap.size W W1) := Lib.hid (by rw [hW1]; exact box_below' W _)
 have HD1 : Hid (CellsN W1 W.heap.size #[.int .i64 l, .int .i64 i, .slice ak nk ck, .int .i64 s]) := Lib.hid (by rw [hW1]; exact CellsN.new W _ _)
 clear hW1 m0 m1 m2 m3
 have n0 := HD1.out.cell 0
 have n1 := HD1.out.cell 1
 have n2 := HD1.out.cell 2
 have n3 := HD1.out.cell 3
 simp at n0 n1 n2 n3
 have n4 := (HF.out.ext HB1.out).2 1
 simp at n4
 have n5 := (HQ1.out.below (HB1.out.mono hB) (Nat.le_refl _)).2
 have hsub : IntKind.i64.wrap ((N : Int) - (it : Int)) = (N : Int) - it := IntWalk.i64_in _ (by omega)
 by_cases hlk : l = (k : Int)
 ·subst hlk
  have hl2 : (((k : Int)) != (k : Int)) = false := by simp
  by_cases hii : i = (it : Int)
  ·subst hii
   by_cases hs0 : s = 0
   ·subst hs0
    have hnn : ((nk : Int) != (N : Int) - it) = true := by
     have h := HRR.out
     simp at h
     simpa using h
    go_wp2
    go_quiet (fail)
    go_wp2
    go_ret
    exact ⟨rfl, below_drewN HB1.out _⟩
   ·have hs1 : (s != 0) = true := by simpa using hs0
    go_wp2
    go_quiet (fail)
    go_wp2
    go_ret
    exact ⟨rfl, below_drewN HB1.out _⟩
  ·have hi1 : (i != (it : Int)) = true := by simpa using hii
   go_wp2
   go_quiet (fail)
   go_wp2
   go_ret
   exact ⟨rfl, below_drewN HB1.out _⟩
 ·have hl3 : (l != (k : Int)) = true := by simpa using hlk
  go_wp2
  go_quiet (fail)
  go_wp2
  go_ret
  exact ⟨rfl, below_drewN HB1.out _⟩
end Go.Proofs.Yteiaeaciaglmgaa
set_option linter.unusedVariables false
set_option linter.unusedSimpArgs false
namespace Go.Proofs.Yteiaeaciaglmgaa
open Go.RowKit
set_option maxHeartbeats 8000000 in
set_option maxRecDepth 100000 in
/-- a lot is next, and the denial fits -/
theorem refgo_any (B : Nat) (W : World) (cn cF cX cA bm k it : Nat) (vl : Value) (f : Flow) (p : Den) (e1 e2 e3 e4 e5 e6 e7 : Value) (RB : Bool) (Post : World → Prop) (hd : DenC B W cn p) (hF : Box W cF #[.int .i64 f.senders, vl]) (hlo : IsLots B W vl f.lots) (hB : B ≤ W.heap.size) (hc : checkE f = 0) (hk : k < f.lots.length) (hit : it ≤ (lotAt f.lots k).ins.length) (hl : p.lot ≠ -1)
  (hcall : ∀ W2, Below W.heap.size W W2 → DenC B W2 W.heap.size p → Calls Try.prog 64 #[.func (.func 46) #[] #[.pointer (some ⟨W.heap.size, 0, none⟩), .pointer (some ⟨cn, 0, none⟩)], e1, e2, e3, e4, e5, e6, e7] W2 fun e W' => e = .returned (.bool RB) ∧ Post W')
  (hR : (decide (p.lot = (k : Nat)) && (decide (p.inn = (it : Nat)) && (decide (p.sender = 0) && decide ((p.kids.length : Int) = (lotAt f.lots k).ins.length - it)))) = true) :
  Calls Try.prog 45 #[.map (some bm), .int .i64 (k : Int), .int .i64 (it : Int), .func (.func 64) #[] #[e1, e2, e3, e4, e5, e6, e7], .pointer (some ⟨cn, 0, none⟩), .pointer (some ⟨cF, 0, none⟩), .pointer (some ⟨cX, 0, none⟩), .pointer (some ⟨cA, 0, none⟩)] W fun e W' =>
   e = .returned (.bool RB) ∧ Post W' := by
 have HCA := Lib.hid hcall
 have hmf := @run_makeFunc_any Try.prog
 clear hcall
 obtain ⟨y0, y1, y2, y3, h1, h2⟩ := hd
 obtain ⟨ak, ck, e, _⟩ := h2.form
 simp only [List.cons.injEq, and_true] at e
 obtain ⟨rfl, rfl, rfl, rfl⟩ := e
 have m0 := h1.cell 0
 have m1 := h1.cell 1
 have m2 := h1.cell 2
 have m3 := h1.cell 3
 simp at m0 m1 m2 m3
 obtain ⟨b, off, cap, ⟨a, rfl, hL1, hL2, hL3⟩, hL4, hL5⟩ := hlo
 obtain rfl : a = some ⟨b, off, none⟩ := by rcases hL3 with h | h; exact h; omega
 obtain ⟨vi, vk, vp, q1, _, _, hli, _, _⟩ := hL5 k hk
 obtain ⟨ai, ci, rfl⟩ := hli.form
 have HQ1 := Lib.hid q1
 have hni : (lotAt f.lots k).ins.length ≤ 50000 := ins_small hc hk
 have h2000 := (checkE_ok hc).2.2.1
 have HF := Lib.hid hF
 obtain ⟨l, hle⟩ : ∃ x, p.lot = x := ⟨_, rfl⟩
 obtain ⟨i, hie⟩ : ∃ x, p.inn = x := ⟨_, rfl⟩
 obtain ⟨s, hse⟩ : ∃ x, p.sender = x := ⟨_, rfl⟩
 obtain ⟨nk, hnk⟩ : ∃ x, p.kids.length = x := ⟨_, rfl⟩
 obtain ⟨N, hN⟩ : ∃ x, (lotAt f.lots k).ins.length = x := ⟨_, rfl⟩
 rw [hle] at m0 hl hR h2
 rw [hie] at m1 hR h2
 rw [hse] at m3 hR h2
 rw [hnk] at m2 hR h2
 rw [hN] at hR HQ1 hni hit
 simp only [Bool.and_eq_true, decide_eq_true_eq] at hR
 obtain ⟨hlk, hii, hs0, hnn0⟩ := hR
 subst hlk hii hs0
 have HNN := Lib.hid hnn0
 clear hnn0
 have HPE : Hid (IsDen B W [.int .i64 (k : Int), .int .i64 (it : Int), .slice ak nk ck, .int .i64 0] p) := Lib.hid h2
 clear h1 h2 hle hie hse hnk hN hF hL3 hL5 q1 hli
 have hl1 : ((k : Int) == -1) = false := by simp
 have hkl : decide ((k : Int) < 0) = false := decide_eq_false (by omega)
 go_enter Try.func45, Try.ntmps45
 go_upto_region 2 with fail
 refine wp_name (fun W1 hW1 => ?_)
 have HB1 : Hid (Below W.heap.size W W1) := Lib.hid (by rw [hW1]; exact box_below' W _)
 have HD1 : Hid (CellsN W1 W.heap.size #[.int .i64 (k : Int), .int .i64 (it : Int), .slice ak nk ck, .int .i64 0]) := Lib.hid (by rw [hW1]; exact CellsN.new W _ _)
 clear hW1 m0 m1 m2 m3
 have n0 := HD1.out.cell 0
 have n1 := HD1.out.cell 1
 have n2 := HD1.out.cell 2
 have n3 := HD1.out.cell 3
 simp at n0 n1 n2 n3
 have n4 := (HF.out.ext HB1.out).2 1
 simp at n4
 have n5 := (HQ1.out.below (HB1.out.mono hB) (Nat.le_refl _)).2
 have hsub : IntKind.i64.wrap ((N : Int) - (it : Int)) = (N : Int) - it := IntWalk.i64_in _ (by omega)
 have HDC1 : Hid (∀ n, DenC B (W1.drewN n) W.heap.size p) := Lib.hid (fun n => ⟨_, _, _, _, HD1.out.turned (Turned.of_below (X := fun _ => False) (below_drewN (Below.refl _ W1) n)) (fun e => e), HPE.out.below (below_drewN (HB1.out.mono hB) n) (Nat.le_refl _)⟩)
 have HCB := Lib.hid (fun n => HCA.out (W1.drewN n) (below_drewN HB1.out n) (HDC1.out n))
 clear HDC1
 have hl2 : (((k : Int)) != (k : Int)) = false := by simp
 have hi2 : (((it : Int)) != (it : Int)) = false := by simp
 have hnn : ((nk : Int) != (N : Int) - it) = false := by rw [HNN.out]; simp
 go_wp2
 go_quiet (fail)
 go_wp2_with (go_at_call 64; refine (HCB.out _).mono ?_; rintro e w9 ⟨rfl, hq9⟩; have HQ9 := Lib.hid hq9; clear hq9)
 go_ret
 exact ⟨rfl, HQ9.out⟩
end Go.Proofs.Yteiaeaciaglmgaa
set_option linter.unusedVariables false
set_option linter.unusedSimpArgs false
namespace Go.Proofs.Yteiaeaciaglmgaa
open Go.RowKit
theorem each_rk (g : Int → Den → Bool) (part : List Int) (kids : List Den) : ∀ m, eachB (fun j i => g (i : Int) (denAt kids j)) part m = rkTo g part kids m
 | 0 => rfl
 | m + 1 => by simp only [eachB, rkTo, each_rk g part kids m]
theorem posS_bd {f : Flow} {w : List (List Int)} {part : List Int} (hc : checkE f = 0) (hso : StOk f w part) {s : Nat} (hs : s < f.senders.toNat) : 0 ≤ posS f w part s ∧ posS f w part s < beforeI f f.lots.length := by
 obtain ⟨h0, _, _, _, hlo⟩ := checkE_ok hc
 have h1 := pos_lt h0 hso.len (lotsB_le hlo hso.len) hso.way hs
 have hb := beforeI_mono (f := f) hso.len
 by_cases hk : w.length < f.lots.length
 ·obtain ⟨_, l2, _⟩ := lotB_parts (lotsB_lot hlo hk)
  have hb2 := beforeI_mono (f := f) (show w.length + 1 ≤ f.lots.length by omega)
  have e : beforeI f (w.length + 1) = beforeI f w.length + (lotAt f.lots w.length).ins.length := rfl
  have h3 := (before_bd hc hso.len).1
  unfold posS
  rcases mv_cases l2 hso.fit part (beforeI f w.length) (posW f w w.length s) with ⟨j, hj, h⟩ | h
  ·rw [h]
   have h2 := hso.low _ (nth_mem' hj)
   omega
  ·rw [h]; omega
 ·have hp : part = [] := by
   have := hso.fit
   rw [lotAt_out (by omega)] at this
   exact List.eq_nil_of_length_eq_zero (by simpa using this)
  subst hp
  unfold posS
  simp only [List.length_nil]
  rw [mv_zero]
  omega
theorem bad_lead {f : Flow} {a : List Int} {w : List (List Int)} {part : List Int} (hc : checkE f = 0) (hso : StOk f w part) {s : Nat} (hs : s < f.senders.toNat) : badB f a w part s = !leadE f (posS f w part s) (nth a s) := by
 obtain ⟨h1, h2⟩ := posS_bd hc hso hs
 unfold badB
 rw [lead_rAt hc h1 h2]
theorem stuck_least {f : Flow} {a : List Int} {w : List (List Int)} {part : List Int} (hc : checkE f = 0) (hso : StOk f w part) : stuckI f a w part = leastN (fun i => !leadE f (posS f w part i) (nth a i)) f.senders.toNat := by
 have h : ∀ n, n ≤ f.senders.toNat → leastN (badB f a w part) n = leastN (fun i => !leadE f (posS f w part i) (nth a i)) n := by
  intro n
  induction n with
  | zero => intro _; rfl
  | succ n ih => intro hn; simp only [leastN, ih (by omega), bad_lead hc hso (show n < f.senders.toNat by omega)]
 exact h _ (Nat.le_refl _)
end Go.Proofs.Yteiaeaciaglmgaa
set_option linter.unusedVariables false
set_option linter.unusedSimpArgs false
namespace Go.Proofs.Yteiaeaciaglmgaa
open Go.RowKit
/-- the blocks of Refutes -/
structure EnvR where
 B : Nat
 C1 : Nat
 D1 : Nat
 q1 : Nat
 cn : Nat
 cF : Nat
 cX : Nat
 cA : Nat
 top : Nat
 vl : Value
 va : Value
 f : Flow
 zs : List Int
structure EnvR.Ok (R : EnvR) : Prop where
 b1 : R.B ≤ R.cn ∧ R.cn < R.top
 b2 : R.B ≤ R.top ∧ R.D1 ≤ R.top
 b3 : R.cF < R.top ∧ R.cX < R.top ∧ R.cA < R.top
 ne : R.cn ≠ R.cF ∧ R.cn ≠ R.cX ∧ R.cn ≠ R.cA
 nl : R.cn < R.C1 ∨ R.D1 ≤ R.cn
 ck : checkE R.f = 0
 len : (R.zs.length : Int) = R.f.senders
structure RefS (R : EnvR) (W : World) : Prop where
 bF : Box W R.cF #[.int .i64 R.f.senders, R.vl]
 bX : Cell1 W R.cX (.pointer (some ⟨R.q1, 0, none⟩))
 bA : Cell1 W R.cA R.va
 lots : LotsAt R.C1 R.D1 W R.q1 R.vl R.f
 flow : IsLots R.B W R.vl R.f.lots
 ints : IsInts R.B W R.va R.zs
 sz : R.top ≤ W.heap.size
theorem RefS.turned {R : EnvR} (hR : R.Ok) {W W' : World} (h : RefS R W) {X : Nat → Prop} (ht : Turned X W W') (hX : ∀ q, X q → q = R.cn ∨ R.top ≤ q) : RefS R W' := by
 have h1 := hR.b1
 have h2 := hR.b2
 have h3 := hR.b3
 obtain ⟨n1, n2, n3⟩ := hR.ne
 have h4 := hR.nl
 have hs := h.sz
 have hn : ∀ q, q < R.top → q ≠ R.cn → ¬ X q := fun q a b c => by rcases hX q c with e | e; exact b e; omega
 have hb := ht.below (B := R.B) (by omega) (fun q hq => hn q (by omega) (by omega))
 exact ⟨h.bF.turned ht (hn _ (by omega) (by omega)), h.bX.turned ht (hn _ (by omega) (by omega)), h.bA.turned ht (hn _ (by omega) (by omega)), h.lots.turned ht (fun q a b => hn q (by omega) (by omega)), h.flow.below hb (Nat.le_refl _), h.ints.below hb (Nat.le_refl _), Nat.le_trans hs ht.size⟩
/-- Refutes calls walk -/
def refCl (R : EnvR) (hR : R.Ok) (E : EnvW) : Client E where
 T := Den
 At d W := R.top ≤ E.bm → RefS R W ∧ DenC R.B W R.cn d
 Dn _ _ _ _ W := R.top ≤ E.bm → R.top ≤ W.heap.size ∧ ∃ d, DenC R.B W R.cn d
 X _ q := q = R.cn
 X0 q := q = R.cn
 res n d w part := rightN R.f R.zs n w part d
 keep := fun d W W' h ht hb => by
  obtain ⟨h1, h2⟩ := h hb
  have b1 := hR.b1
  have b2 := hR.b2
  exact ⟨h1.turned hR ht (fun q e => .inr (by omega)), h2.turned ht (by omega) (by have := h1.sz; omega) (fun k hk e => by omega)⟩
 keepD := fun _ d _ _ W W' h ht hb => by
  obtain ⟨h1, d2, h2⟩ := h hb
  have b1 := hR.b1
  have b2 := hR.b2
  exact ⟨Nat.le_trans h1 ht.size, d2, h2.turned ht (by omega) (by omega) (fun k hk e => by omega)⟩
structure RefE (R : EnvR) (E : EnvW) : Prop where
 ok : E.Ok
 b : E.B = R.B
 f : E.f = R.f
 pf : E.pf = 45
 p1 : E.p1 = .pointer (some ⟨R.cn, 0, none⟩)
 p2 : E.p2 = .pointer (some ⟨R.cF, 0, none⟩)
 p3 : E.p3 = .pointer (some ⟨R.cX, 0, none⟩)
 p4 : E.p4 = .pointer (some ⟨R.cA, 0, none⟩)
 top : R.top ≤ E.bm
theorem right_leaf {f : Flow} {a : List Int} {n : Nat} {w : List (List Int)} {part : List Int} {p : Den} (hc : checkE f = 0) (hso : StOk f w part) (hs : settleS f w part = (w, part)) (hl : p.lot = -1) :
  rightN f a n w part p = (decide (p.inn = 0) && (decide (p.kids.length = 0) && (decide (0 ≤ p.sender) && (decide (p.sender < f.senders) && !leadE f (posS f w part p.sender.toNat) (nth a p.sender.toNat))))) := by
 cases n <;> (unfold rightN; rw [if_pos hl, hs]) <;>
 ·by_cases h1 : 0 ≤ p.sender
  ·by_cases h2 : p.sender < f.senders
   ·rw [bad_lead hc hso (by omega)]
   ·simp [h2]
  ·simp [h1]
theorem right_end {f : Flow} {a : List Int} {n : Nat} {w : List (List Int)} {part : List Int} {p : Den} (hw : w.length = f.lots.length) (hl : p.lot ≠ -1) : rightN f a n w part p = false := by
 have hs := settle_end (part := part) hw
 cases n <;> (unfold rightN; rw [if_neg hl, hs]; simp [hw])
theorem ref_end (R : EnvR) (hR : R.Ok) (E : EnvW) (hE : RefE R E) : EndC E (refCl R hR E) := by
 intro m w W t hso hw hS hat hX
 obtain ⟨h1, h2⟩ := hat hE.top
 have hse := settle_end (f := E.f) (part := []) hw
 rw [hE.pf, hE.p1, hE.p2, hE.p3, hE.p4]
 have hB : R.B ≤ W.heap.size := Nat.le_trans hR.b2.1 h1.sz
 have hmp := hS.mp
 have hn : E.n = R.f.senders.toNat := by unfold EnvW.n; rw [hE.f]
 rw [hn] at hmp
 rw [hE.f] at hso hse hmp hw
 have fin : ∀ (b : Bool) (e : Ending) (W' : World), (e = .returned (.bool b) ∧ Below W.heap.size W W') → rightN R.f R.zs m w [] t = b →
   e = .returned (.bool ((refCl R hR E).res m t w [])) ∧ WalkS E w [] W' ∧ Turned (fun q => q = E.bm ∨ (refCl R hR E).X t q) W W' ∧ (refCl R hR E).Dn m t w [] W' := by
  rintro b e W' ⟨rfl, hb⟩ rfl
  exact ⟨rfl, hS.ext hE.ok hb, Turned.of_below hb, fun _ => ⟨Nat.le_trans h1.sz hb.size, t, h2.turned (Turned.of_below (X := fun _ => False) hb) (fun e => e) hB (fun _ _ e => e)⟩⟩
 by_cases hl : Den.lot t = -1
 ·refine (refleaf_any R.B R.C1 R.D1 W R.cn R.cF R.cX R.cA R.q1 E.bm R.vl R.va _ _ _ R.f R.zs t _ h2 h1.bF h1.bX h1.bA h1.lots hR.ck h1.ints hR.len hmp hB hl).mono ?_
  intro e W' h
  exact fin _ e W' h (right_leaf hR.ck hso hse hl)
 ·refine (refend_any R.B W R.cn R.cF R.cX R.cA E.bm t _ _ h2 hl).mono ?_
  intro e W' h
  exact fin _ e W' h (right_end hw hl)
end Go.Proofs.Yteiaeaciaglmgaa
set_option linter.unusedVariables false
set_option linter.unusedSimpArgs false
namespace Go.Proofs.Yteiaeaciaglmgaa
open Go.RowKit
theorem right_part {f : Flow} {a : List Int} {n : Nat} {w : List (List Int)} {part : List Int} {p : Den} (hk : w.length < f.lots.length) (hs : settleS f w part = (w, part)) (hl : p.lot ≠ -1) :
  rightN f a (n + 1) w part p = ((decide (p.lot = (w.length : Nat)) && (decide (p.inn = (part.length : Nat)) && (decide (p.sender = 0) && decide ((p.kids.length : Int) = (lotAt f.lots w.length).ins.length - part.length)))) &&
   rkTo (fun i d => rightN f a n w (part ++ [i]) d) part p.kids (lotAt f.lots w.length).ins.length) := by
 rw [rightN, if_neg hl, hs]
 simp only [hk, decide_true, Bool.true_and, Bool.and_assoc]
theorem right_settle {f : Flow} {a : List Int} {n : Nat} {w : List (List Int)} {part : List Int} {p : Den} (h : settleS f (settleS f w part).1 (settleS f w part).2 = settleS f w part) : rightN f a n (settleS f w part).1 (settleS f w part).2 p = rightN f a n w part p := by
 cases n <;> (rw [rightN, rightN, h])
end Go.Proofs.Yteiaeaciaglmgaa
set_option linter.unusedVariables false
set_option linter.unusedSimpArgs false
namespace Go.Proofs.Yteiaeaciaglmgaa
open Go.RowKit
theorem each_congr {g g' : Nat → Nat → Bool} {part : List Int} : ∀ {m : Nat}, (∀ i, i < m → hasB part (i : Int) = false → g (freeK part i) i = g' (freeK part i) i) → eachB g part m = eachB g' part m
 | 0, _ => rfl
 | m + 1, h => by
  simp only [eachB, each_congr (m := m) (fun i hi hh => h i (by omega) hh)]
  cases hh : hasB part (m : Int) with
  | true => rfl
  | false => rw [h m (by omega) hh]
theorem settle_twice {f : Flow} {w : List (List Int)} {part : List Int} (hc : checkE f = 0) (hso : StOk f w part) : settleS f (settleS f w part).1 (settleS f w part).2 = settleS f w part := by
 have h := (settle_ok (checkE_ok hc).2.2.2.2 (f.lots.length - w.length) w part (by have := hso.len; omega) hso).end'
 exact settle_settled (by
  rcases h with ⟨h1, _⟩ | h
  ·exact .inl h1
  ·exact .inr h)
theorem ref_part (R : EnvR) (hR : R.Ok) (E : EnvW) (hE : RefE R E) : PartC E (refCl R hR E) := by
 intro m w part W t cy ct ci cf cl hso hk hkn hp hS hat hX hvf heach
 obtain ⟨v, htk, hfr⟩ := hvf
 obtain ⟨h1, h2⟩ := hat hE.top
 have hse := settle_settled (f := E.f) (w := w) (part := part) (.inr ⟨hk, hkn, hp⟩)
 rw [hE.pf, hE.p1, hE.p2, hE.p3, hE.p4]
 have b1 := hR.b1
 have b2 := hR.b2
 have hsz := h1.sz
 have hB : R.B ≤ W.heap.size := Nat.le_trans hR.b2.1 h1.sz
 have hmp := hS.mp
 have hn : E.n = R.f.senders.toNat := by unfold EnvW.n; rw [hE.f]
 rw [hn] at hmp
 have hlo := checkE_ok hR.ck
 rw [hE.f] at hso hse hmp hk hkn hp
 have fin : ∀ (b : Bool) (e : Ending) (W' : World), (e = .returned (.bool b) ∧ Below W.heap.size W W') → rightN R.f R.zs (m + 1) w part t = b →
   e = .returned (.bool ((refCl R hR E).res (m + 1) t w part)) ∧ WalkS E w part W' ∧ Turned (fun q => q = E.bm ∨ (refCl R hR E).X t q) W W' ∧ (refCl R hR E).Dn (m + 1) t w part W' := by
  rintro b e W' ⟨rfl, hb⟩ rfl
  exact ⟨rfl, hS.ext hE.ok hb, Turned.of_below hb, fun _ => ⟨Nat.le_trans h1.sz hb.size, t, h2.turned (Turned.of_below (X := fun _ => False) hb) (fun e => e) hB (fun _ _ e => e)⟩⟩
 by_cases hl : Den.lot t = -1
 ·refine (refleaf_any R.B R.C1 R.D1 W R.cn R.cF R.cX R.cA R.q1 E.bm R.vl R.va _ _ _ R.f R.zs t _ h2 h1.bF h1.bX h1.bA h1.lots hR.ck h1.ints hR.len hmp hB hl).mono ?_
  intro e W' h
  exact fin _ e W' h (right_leaf hR.ck hso hse hl)
 ·have hrp := right_part (a := R.zs) (n := m) hk hse hl
  cases hfit : (decide (Den.lot t = (w.length : Nat)) && (decide (Den.inn t = (part.length : Nat)) && (decide (Den.sender t = 0) && decide (((Den.kids t).length : Int) = (lotAt R.f.lots w.length).ins.length - part.length))))
  ·refine (refmis_any R.B W R.cn R.cF R.cX R.cA E.bm w.length part.length R.vl R.f t _ h2 h1.bF h1.flow hB hR.ck hk (Nat.le_of_lt hp) hl hfit).mono ?_
   intro e W' h
   exact fin _ e W' h (by rw [hrp, hfit, Bool.false_and])
  ·rw [hfit, Bool.true_and] at hrp
   have hkl : (Den.kids t).length = freeK part (lotAt R.f.lots w.length).ins.length := by
    simp only [Bool.and_eq_true, decide_eq_true_eq] at hfit
    have h3 := free_all hso.nodup (lotAt R.f.lots w.length).ins.length
    rw [List.filter_eq_self.2 (fun x hx => decide_eq_true (hso.low x hx))] at h3
    omega
   refine refgo_any R.B W R.cn R.cF R.cX R.cA E.bm w.length part.length R.vl R.f t _ _ _ _ _ _ _ _ (fun W' => WalkS E w part W' ∧ Turned (fun q => q = E.bm ∨ (refCl R hR E).X t q) W W' ∧ (refCl R hR E).Dn (m + 1) t w part W') h2 h1.bF h1.flow hB hR.ck hk (Nat.le_of_lt hp) hl ?_ hfit
   intro W2 hb hd2
   have hcn : W.heap.size ≠ R.cn := by omega
   have h22 : DenC R.B W2 R.cn t := h2.turned (Turned.of_below (X := fun _ => False) hb) (fun e => e) hB (fun _ _ e => e)
   have hbm := hE.top
   have hbmC := hE.ok.x3.2
   have hbC := hS.sz
   have keepA : ∀ (W' W'' : World) (d : Den) (q : Nat), RefS R W' → DenC R.B W' q d → q ≠ E.bm → Turned (fun q => q = E.bm) W' W'' → DenC R.B W'' q d := fun W' W'' d q a1 a2 a3 a4 => a2.turned a4 a3 (by have := a1.sz; omega) (fun k hk e => by omega)
   refine (heach W2 46 (.pointer (some ⟨W.heap.size, 0, none⟩)) (.pointer (some ⟨R.cn, 0, none⟩)) (fun _ W' => RefS R W' ∧ DenC R.B W' W.heap.size t ∧ ∃ d, DenC R.B W' R.cn d) (fun j W' => RefS R W' ∧ DenC R.B W' W.heap.size t ∧ DenC R.B W' R.cn (denAt (Den.kids t) j)) (fun j => denAt (Den.kids t) j) (fun W' => R.top ≤ W'.heap.size ∧ ∃ d, DenC R.B W' R.cn d) (.inr rfl) (hS.ext hE.ok hb) hb.size ⟨W, rfl, Turned.of_below hb, v, htk, hfr⟩
    ⟨h1.turned hR (Turned.of_below (X := fun _ => False) hb) (fun _ e => e.elim), hd2, t, h22⟩
    (fun i W' W'' a ht => ⟨a.1.turned hR ht (fun q e => .inr (by omega)), keepA _ _ _ _ a.1 a.2.1 (by omega) ht, by obtain ⟨d, a3⟩ := a.2.2; exact ⟨d, keepA _ _ _ _ a.1 a3 (by omega) ht⟩⟩)
    (fun i W' W'' a ht => ⟨a.1.turned hR ht (fun q e => .inr (by omega)), keepA _ _ _ _ a.1 a.2.1 (by omega) ht, keepA _ _ _ _ a.1 a.2.2 (by omega) ht⟩)
    (fun W' W'' a ht => ⟨Nat.le_trans a.1 ht.size, by obtain ⟨d, a3⟩ := a.2; exact ⟨d, a3.turned ht (by omega) (by omega) (fun k hk e => by omega)⟩⟩)
    ?_ (fun i W' a _ => ⟨a.1, a.2.2⟩) (fun i q e => .inl e) ?_).mono ?_
   ·intro i hi W3 a hw3 hs3
    obtain ⟨d, y0, y1, y2, y3, a3, _⟩ := a.2.2
    refine (refready_any R.B W3 W.heap.size R.cn t i a.2.1 ⟨y0, y1, y2, y3, a3⟩ (by rw [hE.f] at hi; omega) hcn b1.1).mono ?_
    rintro e W4 ⟨he, g1, g2⟩
    exact ⟨he, ⟨a.1.turned hR g2 (fun q e => .inl e), a.2.1.turned g2 hcn (by have := a.1.sz; omega) (fun k hk e => by omega), g1⟩, g2⟩
   ·intro j i W3 W4 _ _ _ a ht hdn
    have hq : ∀ q, (q = E.bm ∨ q = R.cn) → q = R.cn ∨ R.top ≤ q := fun q e => by rcases e with e | e; exact .inr (by omega); exact .inl e
    obtain ⟨g2, d, g3⟩ := hdn hbm
    refine ⟨fun _ => ?_, fun _ => ⟨g2, d, g3⟩⟩
    exact ⟨a.1.turned hR ht hq, a.2.1.turned ht (fun e => by have e : W.heap.size = E.bm ∨ W.heap.size = R.cn := e; omega) (by have := a.1.sz; omega) (fun k hk e => by have e : k = E.bm ∨ k = R.cn := e; omega), d, g3⟩
   ·rintro e W' ⟨he, g1, g2, g3⟩
    have hgg : rightN R.f R.zs (m + 1) w part t = eachB (fun (j i : Nat) => (refCl R hR E).res m (denAt (Den.kids t) j) (settleS E.f w (part ++ [(i : Int)])).1 (settleS E.f w (part ++ [(i : Int)])).2) part (lotAt E.f.lots w.length).ins.length := by
     rw [hrp, ← each_rk, hE.f]
     exact each_congr (fun i hi hh => (right_settle (settle_twice hR.ck (hso.more hkn hp hi hh))).symm)
    rw [← hgg] at he
    refine ⟨he, g1, (Turned.of_below hb).transE g2 (fun q hq e => ?_), fun _ => ?_⟩
    ·rcases e with e | e | e
     ·exact .inl e
     ·exact .inr e
     ·omega
    ·cases hb2 : eachB (fun (j i : Nat) => (refCl R hR E).res m (denAt (Den.kids t) j) (settleS E.f w (part ++ [(i : Int)])).1 (settleS E.f w (part ++ [(i : Int)])).2) part (lotAt E.f.lots w.length).ins.length with
     | false => exact g3.2 hb2
     | true =>
      obtain ⟨k1, _, k3⟩ := g3.1 hb2
      exact ⟨k1.sz, k3⟩
end Go.Proofs.Yteiaeaciaglmgaa
set_option linter.unusedVariables false
set_option linter.unusedSimpArgs false
namespace Go.Proofs.Yteiaeaciaglmgaa
open Go.RowKit
/-- walk, called by Refutes -/
theorem ref_walk (R : EnvR) (hR : R.Ok) (w : World) (p : Den) (h : RefS R w) (hd : DenC R.B w R.cn p) (htop : R.top = w.heap.size) (hf : IsFlow R.B w (.int .i64 R.f.senders) R.vl R.f) :
  Calls Try.prog 40 #[.agg #[.int .i64 R.f.senders, R.vl], .func (.func 45) #[] #[.pointer (some ⟨R.cn, 0, none⟩), .pointer (some ⟨R.cF, 0, none⟩), .pointer (some ⟨R.cX, 0, none⟩), .pointer (some ⟨R.cA, 0, none⟩)]] w fun e W' =>
   e = .returned (.bool (rightN R.f R.zs (undM R.f R.f.lots.length) [] [] p)) ∧ Turned (fun q => q = R.cn) w W' := by
 have b1 := hR.b1
 have b2 := hR.b2
 refine walk_any R.B w _ R.vl R.f hf (by omega) hR.ck _ _ _ _ _ (.inr rfl) (fun E => refCl R hR E) (fun E => p) _ (fun W' => Turned (fun q => q = R.cn) w W') ?_
 intro E W hE hEB hEf hEvl hEpf h1 h2 h3 h4 hcp hb
 have hRE : RefE R E := ⟨hE, hEB, hEf, hEpf, h1, h2, h3, h4, by have := hE.o2; have := hE.o3; have := hE.x3; omega⟩
 have hs : RefS R W := h.turned hR (Turned.of_below (X := fun _ => False) hb) (fun _ e => e.elim)
 have hbm : w.heap.size ≤ E.bm := by have := hRE.top; omega
 refine ⟨ref_end R hR E hRE, ref_part R hR E hRE, fun t q e => e, fun _ => ⟨hs, hd.turned (Turned.of_below (X := fun _ => False) hb) (fun e => e) (by omega) (fun _ _ e => e)⟩, fun q e => ?_, ?_, fun W' ht _ => ?_⟩
 ·have e : q = R.cn := e
  omega
 ·exact right_settle (settle_twice hR.ck (StOk.start R.f))
 ·exact (Turned.of_below hb).transE ht (fun q hq e => by
   rcases e with e | e
   ·omega
   ·exact e)
set_option maxHeartbeats 8000000 in
set_option maxRecDepth 100000 in
/-- explain.Refutes -/
theorem erefutes_any (B : Nat) (w : World) (vs vl va : Value) (cd : List Value) (f : Flow) (zs : List Int) (p : Den) (hf : IsFlow B w vs vl f) (hz : IsInts B w va zs) (hd : IsDen B w cd p) (hB : B ≤ w.heap.size) :
  Calls Try.prog 18 #[.agg #[vs, vl], va, .agg cd.toArray] w fun e w' => e = .returned (.tuple #[.bool (refutesB f zs p), .int .i64 (errX f zs)]) ∧ Below w.heap.size w w' := by
 have HF := Lib.hid hf
 have HZ := Lib.hid hz
 have HD := Lib.hid hd
 have hmf := @run_makeFunc_any Try.prog
 obtain ⟨rfl, ⟨hs1, hs2⟩, hl'⟩ := hf
 obtain ⟨b, off, cap, ⟨a, rfl, hcap, hmax, ha⟩, hlen, hc⟩ := hl'
 obtain ⟨az, cz, rfl⟩ := hz.form
 obtain ⟨ak, ck, rfl, _⟩ := hd.form
 obtain ⟨l, hl⟩ : ∃ x, p.lot = x := ⟨_, rfl⟩
 obtain ⟨i, hi⟩ : ∃ x, p.inn = x := ⟨_, rfl⟩
 obtain ⟨s, hs⟩ : ∃ x, p.sender = x := ⟨_, rfl⟩
 obtain ⟨nk, hnk⟩ : ∃ x, p.kids.length = x := ⟨_, rfl⟩
 rw [hl, hi, hs, hnk] at HD ⊢
 obtain ⟨nz, hnz⟩ : ∃ x, zs.length = x := ⟨_, rfl⟩
 rw [hnz] at HZ ⊢
 have HNZ := Lib.hid hnz
 obtain ⟨ER, hER⟩ : ∃ x, errX f zs = x := ⟨_, rfl⟩
 have HER := Lib.hid hER
 obtain ⟨RB, hRB⟩ : ∃ x, refutesB f zs p = x := ⟨_, rfl⟩
 have HRB := Lib.hid hRB
 rw [hER, hRB]
 clear hz ha hc hd hl hi hs hnk hER hRB hnz
 go_enter Try.func18, Try.ntmps18
 go_upto_region 1 with fail
 refine wp_name (fun W1 hW1 => ?_)
 have HX1 : Hid (Box W1 w.heap.size #[.int .i64 f.senders, .slice a f.lots.length cap]) := Lib.hid (by rw [hW1]; exact ((Box.new w #[.int .i64 f.senders, .slice a f.lots.length cap] 24).alloc _).alloc _)
 have HA1 : Hid (Cell1 W1 (w.heap.size + 1) (.slice az nz cz)) := Lib.hid (by
  rw [hW1]
  have h := Cell1.new (w.alloc (.cells #[.int .i64 f.senders, .slice a f.lots.length cap] 24)) (.slice az nz cz) 25
  rw [World.size_alloc] at h
  exact h.alloc _)
 have HR1 : Hid (CellsN W1 (w.heap.size + 1 + 1) #[.int .i64 l, .int .i64 i, .slice ak nk ck, .int .i64 s]) := Lib.hid (by
  rw [hW1]
  have h := CellsN.new ((w.alloc (.cells #[.int .i64 f.senders, .slice a f.lots.length cap] 24)).alloc (.cells #[.slice az nz cz] 25)) #[.int .i64 l, .int .i64 i, .slice ak nk ck, .int .i64 s] 31
  simp only [World.size_alloc] at h
  exact h)
 have HW1 : Hid (Below w.heap.size w W1) := Lib.hid (by rw [hW1]; exact ((box_below' w _).trans ((box_below' _ _).mono (by simp))).trans ((box_below' _ _).mono (by simp; omega)))
 clear hW1
 have r1 := HX1.out.2
 have r2 := HA1.out.cell
 have HCH := Lib.hid (echeck_any B W1 _ _ _ f zs (HF.out.below HW1.out hB) (HZ.out.below HW1.out hB) (Nat.le_trans hB HW1.out.size))
 rw [HER.out] at HCH
 go_wp2_with fail
 refine HCH.out.mono ?_
 rintro e W2 ⟨rfl, hb2⟩
 have HB2 := Lib.hid hb2
 clear hb2
 have HX2 := Lib.hid (HX1.out.ext HB2.out)
 have HA2 := Lib.hid (HA1.out.ext HB2.out)
 have HR2 := Lib.hid (HR1.out.ext HB2.out)
 have HW2 : Hid (Below w.heap.size w W2) := Lib.hid (HW1.out.trans (HB2.out.mono HW1.out.size))
 clear r1 r2
 have x2 := HX2.out.2
 by_cases he : ER = 0
 ·have he1 : (ER != 0) = false := by simpa using he
  have hck0 : errX f zs = 0 := by rw [HER.out]; exact he
  obtain ⟨hc, hwy, hal⟩ := errX_ok hck0
  have HC := Lib.hid hc
  have HAL := Lib.hid hal
  have HNL := Lib.hid (newLots_any B W2 _ _ f (HF.out.below HW2.out hB) (Nat.le_trans hB HW2.out.size) hc)
  have HEZ := Lib.hid he
  have HRR : Hid (RB = rightN f zs (undM f f.lots.length) [] [] p) := Lib.hid (by rw [← HRB.out]; unfold refutesB; rw [decide_eq_true hck0, Bool.true_and])
  clear he hal hc hwy hck0
  go_upto_region 5 with (go_at_call 32; refine HNL.out.mono ?_; rintro e W3 ⟨q0, rfl, hlots, hb3⟩; have HLO := Lib.hid hlots; have HB23 := Lib.hid hb3; clear hlots hb3)
  have HR3 := Lib.hid (HR2.out.ext HB23.out)
  refine wp_name (fun W4 hW4 => ?_)
  have HB34 : Hid (Below W3.heap.size W3 W4) := Lib.hid (by rw [hW4]; exact box_below' W3 _)
  have HCX : Hid (Cell1 W4 W3.heap.size (.pointer (some ⟨q0, 0, none⟩))) := Lib.hid (by rw [hW4]; exact Cell1.new W3 _ _)
  have HZ4 : Hid (W4.heap.size = W3.heap.size + 1) := Lib.hid (by rw [hW4]; simp)
  clear hW4
  have n := HR3.out.ext HB34.out
  have n0 := n.cell 0
  have n1 := n.cell 1
  have n2 := n.cell 2
  have n3 := n.cell 3
  simp at n0 n1 n2 n3
  clear n x2
  go_upto_region 6 with fail
  refine wp_name (fun W5 hW5 => ?_)
  have HB45 : Hid (Below W4.heap.size W4 W5) := Lib.hid (by rw [hW5]; exact box_below' W4 _)
  have HCN : Hid (CellsN W5 W4.heap.size #[.int .i64 l, .int .i64 i, .slice ak nk ck, .int .i64 s]) := Lib.hid (by rw [hW5]; exact CellsN.new W4 _ _)
  have HZ5 : Hid (W5.heap.size = W4.heap.size + 1) := Lib.hid (by rw [hW5]; simp)
  clear hW5 n0 n1 n2 n3
  have HB35 : Hid (Below W3.heap.size W3 W5) := Lib.hid (HB34.out.trans (HB45.out.mono HB34.out.size))
  have HB25 : Hid (Below W2.heap.size W2 W5) := Lib.hid (HB23.out.trans (HB35.out.mono HB23.out.size))
  have HW5 : Hid (Below w.heap.size w W5) := Lib.hid (HW2.out.trans (HB25.out.mono HW2.out.size))
  have HX5 := Lib.hid (HX2.out.ext HB25.out)
  have x5 := HX5.out.2
  have hz4 := HZ4.out
  have hz5 := HZ5.out
  have hs23 := HB23.out.size
  have hltA := HA2.out.lt
  have HWK := Lib.hid (ref_walk ⟨B, W2.heap.size, W3.heap.size, q0, W4.heap.size, w.heap.size, W3.heap.size, w.heap.size + 1, W5.heap.size, .slice a f.lots.length cap, .slice az nz cz, f, zs⟩
   ⟨⟨by show B ≤ W4.heap.size; omega, by show W4.heap.size < W5.heap.size; omega⟩, ⟨by show B ≤ W5.heap.size; omega, by show W3.heap.size ≤ W5.heap.size; omega⟩, ⟨by show w.heap.size < W5.heap.size; omega, by show W3.heap.size < W5.heap.size; omega, by show w.heap.size + 1 < W5.heap.size; omega⟩,
    ⟨by show W4.heap.size ≠ w.heap.size; omega, by show W4.heap.size ≠ W3.heap.size; omega, by show W4.heap.size ≠ w.heap.size + 1; omega⟩, .inr (by show W3.heap.size ≤ W4.heap.size; omega), HC.out, HAL.out⟩
   W5 p ⟨HX5.out, HCX.out.ext HB45.out, HA2.out.ext HB25.out, HLO.out.ext HB35.out, (HF.out.below HW5.out hB).2.2, HZ.out.below HW5.out hB, Nat.le_refl _⟩
   ⟨_, _, _, _, HCN.out, HD.out.below HW5.out hB⟩ rfl (HF.out.below HW5.out hB))
  have HWK2 : Hid (Calls Try.prog 40 #[.agg #[.int .i64 f.senders, .slice a f.lots.length cap], .func (.func 45) #[] #[.pointer (some ⟨W4.heap.size, 0, none⟩), .pointer (some ⟨w.heap.size, 0, none⟩), .pointer (some ⟨W3.heap.size, 0, none⟩), .pointer (some ⟨w.heap.size + 1, 0, none⟩)]] W5 fun e W' =>
   e = .returned (.bool RB) ∧ Turned (fun q => q = W4.heap.size) W5 W') := Lib.hid (by rw [HRR.out]; exact HWK.out)
  have HNU : Hid (w.heap.size ≤ W4.heap.size) := Lib.hid (by omega)
  clear hz4 hz5 hs23 hltA HWK
  go_wp2_with (go_at_call 40; refine HWK2.out.mono ?_; rintro e W6 ⟨rfl, ht6⟩; have HT6 := Lib.hid ht6; clear ht6)
  go_ret2
  exact ⟨by rw [HEZ.out]; rfl, HW5.out.trans (HT6.out.below HW5.out.size (fun k hk e => by have := HNU.out; omega))⟩
 ·have he1 : (ER != 0) = true := by simpa using he
  have HEM : Hid (RB = false) := Lib.hid (by rw [← HRB.out]; unfold refutesB; rw [HER.out, decide_eq_false he, Bool.false_and])
  clear he
  go_wp2
  go_ret2
  exact ⟨by rw [HEM.out]; rfl, HW2.out⟩
end Go.Proofs.Yteiaeaciaglmgaa
set_option linter.unusedVariables false
set_option linter.unusedSimpArgs false
namespace Go.Proofs.Yteiaeaciaglmgaa
open Go.RowKit
/-- the denials of the free places below i -/
def kidL (g : Int → Option Den) (part : List Int) : Nat → List Den
 | 0 => []
 | i + 1 => if hasB part (i : Int) then kidL g part i else kidL g part i ++ [(g (i : Int)).getD noD]
theorem kidL_len (g : Int → Option Den) (part : List Int) : ∀ n, (kidL g part n).length = freeK part n
 | 0 => rfl
 | n + 1 => by
  simp only [kidL, freeK]
  split
  ·exact kidL_len g part n
  ·simp [kidL_len g part n]
theorem denAt_pre {l : List Den} {d : Den} {j : Nat} (h : j < l.length) : denAt (l ++ [d]) j = denAt l j := by
 unfold denAt
 rw [List.getD_eq_getElem?_getD, List.getD_eq_getElem?_getD, List.getElem?_append_left h]
theorem denAt_snoc {l : List Den} {d : Den} : denAt (l ++ [d]) l.length = d := by
 unfold denAt
 rw [List.getD_eq_getElem?_getD, List.getElem?_append_right (Nat.le_refl _)]
 simp
theorem kidL_at {g : Int → Option Den} {part : List Int} {i : Nat} (h : hasB part (i : Int) = false) : ∀ {n : Nat}, i < n → denAt (kidL g part n) (freeK part i) = (g (i : Int)).getD noD
 | 0, hi => by omega
 | n + 1, hi => by
  by_cases e : i = n
  ·subst e
   simp only [kidL]
   rw [if_neg (by rw [h]; simp), ← kidL_len g part i, denAt_snoc]
  ·have ih := kidL_at (g := g) h (n := n) (by omega)
   have hlt := free_lt (N := n) (by omega) h
   simp only [kidL]
   split
   ·exact ih
   ·rw [denAt_pre (by rw [kidL_len]; exact hlt)]
    exact ih
theorem kids_each (g : Int → Option Den) (part : List Int) : ∀ n, kidsTo g part n = if eachB (fun (_ i : Nat) => (g (i : Int)).isSome) part n then some (kidL g part n) else none
 | 0 => rfl
 | n + 1 => by
  have e1 : eachB (fun (_ i : Nat) => (g (i : Int)).isSome) part (n + 1) = (eachB (fun (_ i : Nat) => (g (i : Int)).isSome) part n && (hasB part (n : Int) || (g (n : Int)).isSome)) := rfl
  have e2 : kidsTo g part (n + 1) = if hasB part (n : Int) then kidsTo g part n else match kidsTo g part n, g (n : Int) with
   | some l, some d => some (l ++ [d])
   | _, _ => none := rfl
  have e3 : kidL g part (n + 1) = if hasB part (n : Int) then kidL g part n else kidL g part n ++ [(g (n : Int)).getD noD] := rfl
  rw [e1, e2, e3, kids_each g part n]
  cases hasB part (n : Int) <;> cases eachB (fun (_ i : Nat) => (g (i : Int)).isSome) part n <;> cases g (n : Int) <;> rfl
theorem deny_stuck {f : Flow} {a : List Int} {n : Nat} {w : List (List Int)} {part : List Int} (hs : settleS f w part = (w, part)) (h : 0 ≤ stuckI f a w part) : denyN f a n w part = some (leafD (stuckI f a w part)) := by
 cases n <;> (rw [denyN, hs]; exact if_pos h)
theorem deny_end {f : Flow} {a : List Int} {n : Nat} {w : List (List Int)} {part : List Int} (hs : settleS f w part = (w, part)) (hw : w.length = f.lots.length) (h : ¬ 0 ≤ stuckI f a w part) : denyN f a n w part = none := by
 cases n
 ·rw [denyN, hs]; exact if_neg h
 ·rw [denyN, hs]
  simp only
  rw [if_neg h, if_pos hw]
theorem deny_part {f : Flow} {a : List Int} {n : Nat} {w : List (List Int)} {part : List Int} (hs : settleS f w part = (w, part)) (hk : w.length < f.lots.length) (h : ¬ 0 ≤ stuckI f a w part) :
  denyN f a (n + 1) w part = if eachB (fun (_ i : Nat) => (denyN f a n w (part ++ [(i : Int)])).isSome) part (lotAt f.lots w.length).ins.length then some (.mk (w.length : Nat) (part.length : Nat) (kidL (fun i => denyN f a n w (part ++ [i])) part (lotAt f.lots w.length).ins.length) 0) else none := by
 rw [denyN, hs]
 simp only
 rw [if_neg h, if_neg (by omega), kids_each]
 cases eachB (fun (_ i : Nat) => (denyN f a n w (part ++ [(i : Int)])).isSome) part (lotAt f.lots w.length).ins.length <;> rfl
theorem deny_settle {f : Flow} {a : List Int} {n : Nat} {w : List (List Int)} {part : List Int} (h : settleS f (settleS f w part).1 (settleS f w part).2 = settleS f w part) : denyN f a n (settleS f w part).1 (settleS f w part).2 = denyN f a n w part := by
 cases n <;> rw [denyN, denyN, h]
/-- a block of cells with place for four from o on -/
def Slot (W : World) (b o : Nat) : Prop := ∃ c, CellsN W b c ∧ o + 4 ≤ c.size
theorem Slot.lt {W : World} {b o : Nat} (h : Slot W b o) : b < W.heap.size := by obtain ⟨c, h, _⟩ := h; exact h.ltN
theorem Slot.free {W : World} {b o : Nat} (h : Slot W b o) (k : Nat) : W.frozen? ⟨b, k, none⟩ = false := by obtain ⟨c, h, _⟩ := h; exact h.free k
theorem Slot.turned {X : Nat → Prop} {W W' : World} {b o : Nat} (h : Slot W b o) (ht : Turned X W W') (hx : ¬ X b) : Slot W' b o := by obtain ⟨c, h, h2⟩ := h; exact ⟨c, h.turned ht hx, h2⟩
theorem Slot.cells {W : World} {b o : Nat} (h : Slot W b o) : ∃ z0 z1 z2 z3, W.cell? ⟨b, o, none⟩ = some z0 ∧ W.cell? ⟨b, o + 1, none⟩ = some z1 ∧ W.cell? ⟨b, o + 2, none⟩ = some z2 ∧ W.cell? ⟨b, o + 3, none⟩ = some z3 := by
 obtain ⟨c, h, h2⟩ := h
 obtain ⟨z0, h0⟩ := h.lt' o (by omega)
 obtain ⟨z1, h1⟩ := h.lt' (o + 1) (by omega)
 obtain ⟨z2, h2⟩ := h.lt' (o + 2) (by omega)
 obtain ⟨z3, h3⟩ := h.lt' (o + 3) (by omega)
 exact ⟨z0, z1, z2, z3, h0, h1, h2, h3⟩
/-- blocks X and the slot (b, o) alone have been written -/
structure SlotT (X : Nat → Prop) (b o : Nat) (W W' : World) : Prop where
 tu : Turned (fun q => X q ∨ q = b) W W'
 ot : ∀ k, k < o ∨ o + 4 ≤ k → W'.cell? ⟨b, k, none⟩ = W.cell? ⟨b, k, none⟩
 sl : ∀ o', Slot W b o' → Slot W' b o'
theorem SlotT.refl (X : Nat → Prop) (b o : Nat) (W : World) : SlotT X b o W W := ⟨Turned.refl _ _, fun _ _ => rfl, fun _ h => h⟩
theorem SlotT.trans {X : Nat → Prop} {b o : Nat} {W W' W'' : World} (h : SlotT X b o W W') (k : SlotT X b o W' W'') : SlotT X b o W W'' := ⟨h.tu.trans k.tu, fun q hq => (k.ot q hq).trans (h.ot q hq), fun o' h' => k.sl o' (h.sl o' h')⟩
theorem SlotT.of {X Y : Nat → Prop} {b o : Nat} {W W' : World} (h : Turned Y W W') (hb : b < W.heap.size) (hY : ∀ q, q < W.heap.size → Y q → X q ∧ q ≠ b) : SlotT X b o W W' :=
 ⟨h.mono (fun q hq e => .inl (hY q hq e).1), fun k _ => h.cell (p := ⟨b, k, none⟩) hb (fun e => (hY b hb e).2 rfl), fun o' h' => h'.turned h (fun e => (hY b hb e).2 rfl)⟩
/-- the slot holds these four -/
structure SlotC (b o : Nat) (c0 c1 c2 c3 : Value) (W : World) : Prop where
 c0 : W.cell? ⟨b, o, none⟩ = some c0
 c1 : W.cell? ⟨b, o + 1, none⟩ = some c1
 c2 : W.cell? ⟨b, o + 2, none⟩ = some c2
 c3 : W.cell? ⟨b, o + 3, none⟩ = some c3
theorem SlotC.turned {X : Nat → Prop} {b o : Nat} {c0 c1 c2 c3 : Value} {W W' : World} (h : SlotC b o c0 c1 c2 c3 W) (ht : Turned X W W') (hb : b < W.heap.size) (hx : ¬ X b) : SlotC b o c0 c1 c2 c3 W' :=
 ⟨(ht.cell (p := ⟨b, o, none⟩) hb hx).trans h.c0, (ht.cell (p := ⟨b, o + 1, none⟩) hb hx).trans h.c1, (ht.cell (p := ⟨b, o + 2, none⟩) hb hx).trans h.c2, (ht.cell (p := ⟨b, o + 3, none⟩) hb hx).trans h.c3⟩
theorem SlotC.other {X : Nat → Prop} {b o p : Nat} {c0 c1 c2 c3 : Value} {W W' : World} (h : SlotC b o c0 c1 c2 c3 W) (ht : SlotT X b p W W') (hp : o + 4 ≤ p) : SlotC b o c0 c1 c2 c3 W' :=
 ⟨(ht.ot o (by omega)).trans h.c0, (ht.ot (o + 1) (by omega)).trans h.c1, (ht.ot (o + 2) (by omega)).trans h.c2, (ht.ot (o + 3) (by omega)).trans h.c3⟩
theorem SlotC.list {b o : Nat} {c0 c1 c2 c3 : Value} {W : World} (h : SlotC b o c0 c1 c2 c3 W) : ∀ q u, [c0, c1, c2, c3][q]? = some u → W.cell? ⟨b, o + q, none⟩ = some u := fun q u hq => by
 match q, hq with
 | 0, hq => simp at hq; subst hq; exact h.c0
 | 1, hq => simp at hq; subst hq; exact h.c1
 | 2, hq => simp at hq; subst hq; exact h.c2
 | 3, hq => simp at hq; subst hq; exact h.c3
 | q + 4, hq => simp at hq
theorem slot_set {b o : Nat} {W W1 : World} (h : Slot W b o) (hb : Below W.heap.size W W1) (c0 c1 c2 c3 : Value) :
  SlotT (fun _ => False) b o W ((((W1.setCell ⟨b, o, none⟩ c0).setCell ⟨b, o + 1, none⟩ c1).setCell ⟨b, o + 2, none⟩ c2).setCell ⟨b, o + 3, none⟩ c3) ∧ SlotC b o c0 c1 c2 c3 ((((W1.setCell ⟨b, o, none⟩ c0).setCell ⟨b, o + 1, none⟩ c1).setCell ⟨b, o + 2, none⟩ c2).setCell ⟨b, o + 3, none⟩ c3) := by
 have hlt := h.lt
 have h1 := h.turned (Turned.of_below (X := fun _ => False) hb) (fun e => e)
 have hg := fun (w : World) k v => Turned.of_grown (X := fun q => False ∨ q = b) (grown_setCell w ⟨b, k, none⟩ v) (fun q e => .inr (by simpa using e.symm))
 obtain ⟨c, hc, hs⟩ := h1
 have hn := (((hc.set o c0).set (o + 1) c1).set (o + 2) c2).set (o + 3) c3
 refine ⟨⟨(Turned.of_below hb).trans ((((hg _ _ _).trans (hg _ _ _)).trans (hg _ _ _)).trans (hg _ _ _)), fun k hk => ?_, fun o' h' => ?_⟩, ⟨?_, ?_, ?_, ?_⟩⟩
 ·rw [hn.cell, ← hb.cell (p := ⟨b, k, none⟩) hlt, hc.cell]
  simp only [Array.getElem?_setIfInBounds]
  rw [if_neg (by omega), if_neg (by omega), if_neg (by omega), if_neg (by omega)]
 ·obtain ⟨c', g1, g2⟩ := h'.turned (Turned.of_below (X := fun _ => False) hb) (fun e => e)
  obtain ⟨t, g3⟩ := g1
  obtain ⟨t', g4⟩ := hc
  rw [g3] at g4
  cases g4
  exact ⟨_, hn, by simpa using g2⟩
 ·rw [hn.cell]
  simp only [Array.getElem?_setIfInBounds, Array.size_setIfInBounds]
  rw [if_neg (by omega), if_neg (by omega), if_neg (by omega), if_pos trivial, if_pos (by omega)]
 ·rw [hn.cell]
  simp only [Array.getElem?_setIfInBounds, Array.size_setIfInBounds]
  rw [if_neg (by omega), if_neg (by omega), if_pos trivial, if_pos (by omega)]
 ·rw [hn.cell]
  simp only [Array.getElem?_setIfInBounds, Array.size_setIfInBounds]
  rw [if_neg (by omega), if_pos trivial, if_pos (by omega)]
 ·rw [hn.cell]
  simp only [Array.getElem?_setIfInBounds, Array.size_setIfInBounds]
  rw [if_pos trivial, if_pos (by omega)]
theorem made_size (n : Nat) : (madeCells zeroD (n * 4)).size = n * 4 := size_madeCells _ _
theorem made_slot {W : World} {b n j : Nat} (h : CellsN W b (madeCells zeroD (n * 4))) (hj : j < n) : Slot W b (j * 4) := ⟨_, h, by rw [made_size]; omega⟩
theorem run_make_den (n : Nat) (hn : n ≤ 100000) (w : World) : (Instr.makeSlice 29 (.int .i64 (n : Int)) (.int .i64 (n : Int))).run Try.prog w = .ok (.slice (some ⟨w.heap.size, 0, none⟩) n n) (w.alloc (.cells (madeCells zeroD (n * 4)) 31)) := by
 obtain ⟨i0, hi, hz0⟩ := Option.map_eq_some_iff.1 den_inf
 simp only [Prod.mk.injEq] at hz0
 obtain ⟨hz0, hz1, hz2⟩ := hz0
 have hr := run_make (P := Try.prog) w 29 31 i0 (.agg #[.int .i64 0, .int .i64 0, .slice none 0 0, .int .i64 0]) Try.underlying29 hi hz0 .i64 .i64 n n (by omega) (by omega) (by rw [hz2]; omega) (by omega)
 simp only [Int.toNat_natCast, hz1] at hr
 exact hr
end Go.Proofs.Yteiaeaciaglmgaa
set_option linter.unusedVariables false
set_option linter.unusedSimpArgs false
namespace Go.Proofs.Yteiaeaciaglmgaa
open Go.RowKit
set_option maxHeartbeats 8000000 in
set_option maxRecDepth 100000 in
/-- some sender is stuck -/
theorem denleaf_any (C1 D1 B : Nat) (W : World) (cX cA ct cF q1 bm b o : Nat) (vl va : Value) (f : Flow) (zs : List Int) (P : Nat → Int) (hX : Cell1 W cX (.pointer (some ⟨q1, 0, none⟩))) (hA : Cell1 W cA va) (ht : Cell1 W ct (.pointer (some ⟨b, o, none⟩))) (hs : Slot W b o) (hlo : LotsAt C1 D1 W q1 vl f) (hc : checkE f = 0)
  (hz : IsInts B W va zs) (hzl : (zs.length : Int) = f.senders) (hof : OfMap W bm f.senders.toNat P) (hB : B ≤ W.heap.size) (lotV inV eachV : Value) (hk : 0 ≤ leastN (fun i => !leadE f (P i) (nth zs i)) f.senders.toNat) :
  Calls Try.prog 41 #[.map (some bm), lotV, inV, eachV, .pointer (some ⟨cX, 0, none⟩), .pointer (some ⟨cA, 0, none⟩), .pointer (some ⟨ct, 0, none⟩), .pointer (some ⟨cF, 0, none⟩)] W fun e W' =>
   e = .returned (.bool true) ∧ SlotT (fun _ => False) b o W W' ∧ SlotC b o (.int .i64 (-1)) (.int .i64 0) (.slice none 0 0) (.int .i64 (leastN (fun i => !leadE f (P i) (nth zs i)) f.senders.toNat)) W' := by
 obtain ⟨bz, oz, cz, ⟨az, rfl, hz1, hz2, hz3⟩, hz4, hz5, hzc⟩ := id hz
 have hzn : zs.length = f.senders.toNat := by omega
 have hbd := leastN_bd (fun i => !leadE f (P i) (nth zs i)) f.senders.toNat
 obtain ⟨_, h64, _⟩ := checkE_ok hc
 have HST := Lib.hid (stuck_any C1 D1 B W q1 bm f.senders.toNat vl _ f zs P hlo hc hof hz hzn hB)
 obtain ⟨K, hK⟩ : ∃ x, leastN (fun i => !leadE f (P i) (nth zs i)) f.senders.toNat = x := ⟨_, rfl⟩
 rw [hK] at HST hbd hk ⊢
 have m1 := hX.cell
 have m2 := hA.cell
 have HT := Lib.hid ht
 have HSL := Lib.hid hs
 clear hK hX hA ht hs hlo hz hzl hof hz3 hzc hz5 hzn
 have hk1 : decide (0 ≤ K) = true := decide_eq_true hk
 go_enter Try.func41, Try.ntmps41
 go_upto_region 2 with (go_at_call 42; refine HST.out.mono ?_; rintro e W1 ⟨rfl, hb1⟩; have HB1 := Lib.hid hb1; clear hb1)
 have hs1 := HSL.out.turned (Turned.of_below (X := fun _ => False) HB1.out) (fun e => e)
 obtain ⟨z0, z1, z2, z3, n0, n1, n2, n3⟩ := hs1.cells
 have f0 := hs1.free o
 have f1 := hs1.free (o + 1)
 have f2 := hs1.free (o + 2)
 have f3 := hs1.free (o + 3)
 have m3 := (HT.out.ext HB1.out).cell
 clear hs1
 go_wp2
 go_ret
 obtain ⟨g1, g2⟩ := slot_set HSL.out HB1.out (.int .i64 (-1)) (.int .i64 0) (.slice none 0 0) (.int .i64 K)
 exact ⟨rfl, g1, g2⟩
set_option maxHeartbeats 8000000 in
set_option maxRecDepth 100000 in
/-- nobody is stuck, and all lots are done -/
theorem denend_any (C1 D1 B : Nat) (W : World) (cX cA ct cF q1 bm b o : Nat) (vl va : Value) (f : Flow) (zs : List Int) (P : Nat → Int) (hX : Cell1 W cX (.pointer (some ⟨q1, 0, none⟩))) (hA : Cell1 W cA va) (ht : Cell1 W ct (.pointer (some ⟨b, o, none⟩))) (hs : Slot W b o) (hlo : LotsAt C1 D1 W q1 vl f) (hc : checkE f = 0)
  (hz : IsInts B W va zs) (hzl : (zs.length : Int) = f.senders) (hof : OfMap W bm f.senders.toNat P) (hB : B ≤ W.heap.size) (inV eachV : Value) (hk : ¬ 0 ≤ leastN (fun i => !leadE f (P i) (nth zs i)) f.senders.toNat) :
  Calls Try.prog 41 #[.map (some bm), .int .i64 (-1), inV, eachV, .pointer (some ⟨cX, 0, none⟩), .pointer (some ⟨cA, 0, none⟩), .pointer (some ⟨ct, 0, none⟩), .pointer (some ⟨cF, 0, none⟩)] W fun e W' =>
   e = .returned (.bool false) ∧ Below W.heap.size W W' := by
 obtain ⟨bz, oz, cz, ⟨az, rfl, hz1, hz2, hz3⟩, hz4, hz5, hzc⟩ := id hz
 have hzn : zs.length = f.senders.toNat := by omega
 have hbd := leastN_bd (fun i => !leadE f (P i) (nth zs i)) f.senders.toNat
 obtain ⟨_, h64, _⟩ := checkE_ok hc
 have HST := Lib.hid (stuck_any C1 D1 B W q1 bm f.senders.toNat vl _ f zs P hlo hc hof hz hzn hB)
 obtain ⟨K, hK⟩ : ∃ x, leastN (fun i => !leadE f (P i) (nth zs i)) f.senders.toNat = x := ⟨_, rfl⟩
 rw [hK] at HST hbd hk
 have m1 := hX.cell
 have m2 := hA.cell
 have HT := Lib.hid ht
 have HSL := Lib.hid hs
 clear hK hX hA ht hs hlo hz hzl hof hz3 hzc hz5 hzn
 have hk1 : decide (0 ≤ K) = false := decide_eq_false hk
 go_enter Try.func41, Try.ntmps41
 go_upto_region 2 with (go_at_call 42; refine HST.out.mono ?_; rintro e W1 ⟨rfl, hb1⟩; have HB1 := Lib.hid hb1; clear hb1)
 go_wp2
 go_ret
 exact ⟨rfl, HB1.out⟩
/-- while Deny lays a denial: fm: its children are made; fs: it is stored -/
structure MkR (W : World) (b o n : Nat) (l i : Int) (fm fs : Bool) (w : World) : Prop where
 be : fs = false → Below W.heap.size W w
 lo : fm = false → fs = false → w.heap.size = W.heap.size
 md : fm = true → CellsN w W.heap.size (madeCells zeroD (n * 4))
 st : fs = true → SlotT (fun _ => False) b o W w ∧ SlotC b o (.int .i64 l) (.int .i64 i) (.slice (some ⟨W.heap.size, 0, none⟩) n n) (.int .i64 0) w
theorem MkR.start (W : World) (b o n : Nat) (l i : Int) (m : Nat) : MkR W b o n l i false false (W.drewN m) :=
 ⟨fun _ => below_drewN (Below.refl _ _) m, fun _ _ => rfl, (fun e => by cases e), (fun e => by cases e)⟩
theorem MkR.sm {W : World} {b o n : Nat} {l i : Int} {fm fs : Bool} {w : World} (h : MkR W b o n l i fm fs w) (hm : fm = false) (hs : fs = false) (t : TypeId) : MkR W b o n l i true fs (w.alloc (.cells (madeCells zeroD (n * 4)) t)) := by
 have hl := h.lo hm hs
 exact ⟨fun e => (h.be e).alloc (by omega) _, (fun e => by cases e), (fun _ => by rw [← hl]; exact CellsN.new w _ _), (fun e => by rw [hs] at e; cases e)⟩
theorem MkR.ss {W : World} {b o n : Nat} {l i : Int} {fm fs : Bool} {w : World} (h : MkR W b o n l i fm fs w) (hs : fs = false) (hm : fm = true) (hsl : Slot W b o) :
  MkR W b o n l i fm true ((((w.setCell ⟨b, o, none⟩ (.int .i64 l)).setCell ⟨b, o + 1, none⟩ (.int .i64 i)).setCell ⟨b, o + 2, none⟩ (.slice (some ⟨W.heap.size, 0, none⟩) n n)).setCell ⟨b, o + 3, none⟩ (.int .i64 0)) := by
 have hlt := hsl.lt
 have hg := fun (w : World) k v => Turned.of_grown (X := fun q => q = b) (grown_setCell w ⟨b, k, none⟩ v) (fun q e => by simpa using e.symm)
 exact ⟨(fun e => by cases e), (fun e => by rw [hm] at e; cases e), fun e => (h.md e).turned ((((hg _ _ _).trans (hg _ _ _)).trans (hg _ _ _)).trans (hg _ _ _)) (fun e => by omega), fun _ => slot_set hsl (h.be hs) _ _ _ _⟩
set_option maxHeartbeats 8000000 in
set_option maxRecDepth 100000 in
/-- nobody is stuck, and a lot is next -/
theorem dengo_any (C1 D1 B : Nat) (W : World) (cX cA ct cF q1 bm b o : Nat) (vl va : Value) (f : Flow) (zs : List Int) (P : Nat → Int) (hX : Cell1 W cX (.pointer (some ⟨q1, 0, none⟩))) (hA : Cell1 W cA va) (ht : Cell1 W ct (.pointer (some ⟨b, o, none⟩))) (hs : Slot W b o) (hlo : LotsAt C1 D1 W q1 vl f) (hc : checkE f = 0)
  (hz : IsInts B W va zs) (hzl : (zs.length : Int) = f.senders) (hof : OfMap W bm f.senders.toNat P) (hB : B ≤ W.heap.size) (k it n : Nat) (e1 e2 e3 e4 e5 e6 e7 : Value) (RB : Bool) (Post : World → Prop) (hk : ¬ 0 ≤ leastN (fun i => !leadE f (P i) (nth zs i)) f.senders.toNat) (hF : Box W cF #[.int .i64 f.senders, vl]) (hls : IsLots B W vl f.lots) (hkl : k < f.lots.length) (hn : it + n = (lotAt f.lots k).ins.length)
  (hcall : ∀ (W2 : World) (qm kb : Nat), W.heap.size ≤ qm → qm < kb → kb < W2.heap.size → SlotT (fun _ => False) b o W W2 → SlotC b o (.int .i64 (k : Int)) (.int .i64 (it : Int)) (.slice (some ⟨kb, 0, none⟩) n n) (.int .i64 0) W2 → Cell1 W2 qm (.pointer (some ⟨b, o, none⟩)) → CellsN W2 kb (madeCells zeroD (n * 4)) →
   Calls Try.prog 64 #[.func (.func 43) #[] #[.pointer (some ⟨qm, 0, none⟩), .pointer (some ⟨ct, 0, none⟩)], e1, e2, e3, e4, e5, e6, e7] W2 fun e W' => e = .returned (.bool RB) ∧ Post W') :
  Calls Try.prog 41 #[.map (some bm), .int .i64 (k : Int), .int .i64 (it : Int), .func (.func 64) #[] #[e1, e2, e3, e4, e5, e6, e7], .pointer (some ⟨cX, 0, none⟩), .pointer (some ⟨cA, 0, none⟩), .pointer (some ⟨ct, 0, none⟩), .pointer (some ⟨cF, 0, none⟩)] W fun e W' =>
   e = .returned (.bool RB) ∧ Post W' := by
 have HCA := Lib.hid hcall
 have hmf := @run_makeFunc_any Try.prog
 clear hcall
 obtain ⟨bz, oz, cz, ⟨az, rfl, hz1, hz2, hz3⟩, hz4, hz5, hzc⟩ := id hz
 have hzn : zs.length = f.senders.toNat := by omega
 have hbd := leastN_bd (fun i => !leadE f (P i) (nth zs i)) f.senders.toNat
 obtain ⟨_, h64, _⟩ := checkE_ok hc
 have HST := Lib.hid (stuck_any C1 D1 B W q1 bm f.senders.toNat vl _ f zs P hlo hc hof hz hzn hB)
 obtain ⟨K, hK⟩ : ∃ x, leastN (fun i => !leadE f (P i) (nth zs i)) f.senders.toNat = x := ⟨_, rfl⟩
 rw [hK] at HST hbd hk
 have m1 := hX.cell
 have m2 := hA.cell
 have HT := Lib.hid ht
 have HSL := Lib.hid hs
 clear hK hX hA ht hs hlo hz hzl hof hz3 hzc hz5 hzn
 obtain ⟨bl, ol, cap, ⟨a, rfl, hL1, hL2, hL3⟩, hL4, hL5⟩ := hls
 obtain rfl : a = some ⟨bl, ol, none⟩ := by rcases hL3 with h | h; exact h; omega
 obtain ⟨vi, vk, vp, q1', _, _, hli, _, _⟩ := hL5 k hkl
 obtain ⟨ai, ci, rfl⟩ := hli.form
 have HQ1 := Lib.hid q1'
 have hni : (lotAt f.lots k).ins.length ≤ 50000 := ins_small hc hkl
 have h2000 := (checkE_ok hc).2.2.1
 have HF := Lib.hid hF
 obtain ⟨N, hN⟩ : ∃ x, (lotAt f.lots k).ins.length = x := ⟨_, rfl⟩
 rw [hN] at hn HQ1 hni
 clear hL3 hL5 q1' hli hF hN
 have hk1 : decide (0 ≤ K) = false := decide_eq_false hk
 have hkn : decide ((k : Int) < 0) = false := decide_eq_false (by omega)
 have HMK := Lib.hid (fun w => run_make_den n (by omega) w)
 go_enter Try.func41, Try.ntmps41
 go_upto_region 2 with (go_at_call 42; refine HST.out.mono ?_; rintro e W1 ⟨rfl, hb1⟩; have HB1 := Lib.hid hb1; clear hb1)
 have m3 := (HT.out.ext HB1.out).cell
 go_upto_region 8 with fail
 refine wp_name (fun W2 hW2 => ?_)
 have HB12 : Hid (Below W1.heap.size W1 W2) := Lib.hid (by rw [hW2]; exact box_below' W1 _)
 have HQM : Hid (Cell1 W2 W1.heap.size (.pointer (some ⟨b, o, none⟩))) := Lib.hid (by rw [hW2]; exact Cell1.new W1 _ _)
 have HZ2 : Hid (W2.heap.size = W1.heap.size + 1) := Lib.hid (by rw [hW2]; simp)
 clear hW2 m3
 have HB2 : Hid (Below W.heap.size W W2) := Lib.hid (HB1.out.trans (HB12.out.mono HB1.out.size))
 have HSL2 := Lib.hid (HSL.out.turned (Turned.of_below (X := fun _ => False) HB2.out) (fun e => e))
 have HRD : Hid (∀ w, Below W2.heap.size W2 w → w.cell? ⟨W1.heap.size, 0, none⟩ = some (.pointer (some ⟨b, o, none⟩)) ∧ w.cell? ⟨cF, 1, none⟩ = some (.slice (some ⟨bl, ol, none⟩) f.lots.length cap) ∧ w.cell? ⟨bl, ol + k * 3, none⟩ = some (.slice ai N ci)) := Lib.hid (fun w hb => by
  have h2 := (HF.out.ext (HB2.out.trans (hb.mono HB2.out.size))).2 1
  simp at h2
  exact ⟨(HQM.out.ext hb).cell, h2, (HQ1.out.below ((HB2.out.trans (hb.mono HB2.out.size)).mono hB) (Nat.le_refl _)).2⟩)
 have hsub : IntKind.i64.wrap ((N : Int) - (it : Int)) = (n : Int) := by rw [IntWalk.i64_in _ (by omega)]; omega
 obtain ⟨s1, hs1⟩ : ∃ x, W1.heap.size = x := ⟨_, rfl⟩
 have HS1 := Lib.hid hs1
 rw [hs1] at HQM HZ2 HRD ⊢
 clear hs1
 obtain ⟨V, hV⟩ : ∃ V : List (Option Value), V = [some (.pointer (some ⟨b, o, none⟩)), some (.int .i64 (k : Int)), some (.int .i64 (it : Int)), some (.pointer (some ⟨cF, 1, none⟩)), some (.slice (some ⟨bl, ol, none⟩) f.lots.length cap), some (.int .i64 (k : Int)), some (.pointer (some ⟨bl, ol + k * 3, none⟩)), some (.pointer (some ⟨bl, ol + k * 3, none⟩)), some (.slice ai N ci), some (.int .i64 (N : Int)), some (.int .i64 (it : Int)), some (.int .i64 (n : Int)), some (.slice (some ⟨W2.heap.size, 0, none⟩) n n), some (.agg #[.int .i64 (k : Int), .int .i64 (it : Int), .slice (some ⟨W2.heap.size, 0, none⟩) n n, .int .i64 0]), some (.pointer (some ⟨b, o, none⟩)), none] := ⟨_, rfl⟩
 have HVV := Lib.hid hV
 clear hV
 refine wp_region_V [some 28, some 29, some 30, some 31, some 32, some 33, some 34, some 35, some 36, some 37, some 38, some 39, some 40, some 41, some 42, none] (fun L w' xs => ValsAt V L xs ∧ (MkR W2 b o n (k : Int) (it : Int) (L 12) (L 15) w' ∧ (L 15 = true → L 0 = true ∧ L 4 = true ∧ L 8 = true ∧ L 12 = true))) (by kernel_rfl) (by kernel_rfl) (by rfl) (by rfl) (by rfl) ?_ ?_ ?_
 focus
  exact fun xs => ⟨ValsAt.none _ _, (by exact MkR.start W2 b o n _ _ 1), (fun e => by cases e)⟩
 focus
  refine ⟨?_, ?_, ?_, ?_, ?_, ?_, ?_, ?_, ?_, ?_, ?_, ?_, ?_, ?_, ?_, ?_, trivial⟩
  all_goals
   intro L a' w' xs hi hd hf hJ K hK
   obtain ⟨hv, hA, h15⟩ := hJ
   have HF := Lib.hid hf
   have HVA := Lib.hid hv
   have HLI := Lib.hid hi
   clear hf hv hi
  focus
   clear hd
   obtain ⟨ρ, hρ⟩ : ∃ ρ, a'.eval = ρ := ⟨_, rfl⟩
   have hcst : ∀ v, ρ (.const v) = v := fun v => (congrFun hρ (.const v)).symm
   have l14 : ρ (.tmp 14) = .pointer (some ⟨s1, 0, none⟩) := (congrFun hρ (.tmp 14)).symm.trans (HF.out.lo 14 rfl)
   have hn15 : L 15 = false := by
    cases e : L 15 with
    | false => rfl
    | true => obtain ⟨a0, a4, a8, a12⟩ := h15 e; rw [HLI.out] at a0; cases a0
   obtain ⟨y1, y2, y3⟩ := HRD.out w' (hA.be hn15)
   rw [if_pos (by simp [Region.wanted])]
   unfold Oper.wp
   rw [hρ]
   clear hρ
   go_simp
   exact hK.out _ _ ⟨HVA.out.set (i := 0) (by rw [HVV.out]; rfl), (by exact hA), (fun e => by obtain ⟨a0, a4, a8, a12⟩ := h15 e; simp [upd, a0, a4, a8, a12])⟩
  focus
   clear hd
   obtain ⟨ρ, hρ⟩ : ∃ ρ, a'.eval = ρ := ⟨_, rfl⟩
   have hcst : ∀ v, ρ (.const v) = v := fun v => (congrFun hρ (.const v)).symm
   have l1 : ρ (.tmp 1) = .int .i64 (k : Int) := (congrFun hρ (.tmp 1)).symm.trans (HF.out.lo 1 rfl)
   rw [if_pos (by simp [Region.wanted])]
   unfold Oper.wp
   rw [hρ]
   clear hρ
   go_simp
   exact hK.out _ _ ⟨HVA.out.set (i := 1) (by rw [HVV.out]; rfl), (by exact hA), (fun e => by obtain ⟨a0, a4, a8, a12⟩ := h15 e; simp [upd, a0, a4, a8, a12])⟩
  focus
   clear hd
   obtain ⟨ρ, hρ⟩ : ∃ ρ, a'.eval = ρ := ⟨_, rfl⟩
   have hcst : ∀ v, ρ (.const v) = v := fun v => (congrFun hρ (.const v)).symm
   have l2 : ρ (.tmp 2) = .int .i64 (it : Int) := (congrFun hρ (.tmp 2)).symm.trans (HF.out.lo 2 rfl)
   rw [if_pos (by simp [Region.wanted])]
   unfold Oper.wp
   rw [hρ]
   clear hρ
   go_simp
   exact hK.out _ _ ⟨HVA.out.set (i := 2) (by rw [HVV.out]; rfl), (by exact hA), (fun e => by obtain ⟨a0, a4, a8, a12⟩ := h15 e; simp [upd, a0, a4, a8, a12])⟩
  focus
   clear hd
   obtain ⟨ρ, hρ⟩ : ∃ ρ, a'.eval = ρ := ⟨_, rfl⟩
   have hcst : ∀ v, ρ (.const v) = v := fun v => (congrFun hρ (.const v)).symm
   have l7 : ρ (.tmp 7) = .pointer (some ⟨cF, 0, none⟩) := (congrFun hρ (.tmp 7)).symm.trans (HF.out.lo 7 rfl)
   rw [if_pos (by simp [Region.wanted])]
   unfold Oper.wp
   rw [hρ]
   clear hρ
   go_simp
   exact hK.out _ _ ⟨HVA.out.set (i := 3) (by rw [HVV.out]; rfl), (by exact hA), (fun e => by obtain ⟨a0, a4, a8, a12⟩ := h15 e; simp [upd, a0, a4, a8, a12])⟩
  focus
   obtain ⟨d3, _⟩ := hd
   obtain ⟨ρ, hρ⟩ : ∃ ρ, a'.eval = ρ := ⟨_, rfl⟩
   have hcst : ∀ v, ρ (.const v) = v := fun v => (congrFun hρ (.const v)).symm
   have v3 : ρ (.tmp 31) = .pointer (some ⟨cF, 1, none⟩) := (congrFun hρ (.tmp 31)).symm.trans ((HF.out.ev 3 rfl d3).trans (HVA.out 3 _ (by rw [HVV.out]; rfl) d3))
   have hn15 : L 15 = false := by
    cases e : L 15 with
    | false => rfl
    | true => obtain ⟨a0, a4, a8, a12⟩ := h15 e; rw [HLI.out] at a4; cases a4
   obtain ⟨y1, y2, y3⟩ := HRD.out w' (hA.be hn15)
   rw [if_pos (by simp [Region.wanted])]
   unfold Oper.wp
   rw [hρ]
   clear hρ
   go_simp
   exact hK.out _ _ ⟨HVA.out.set (i := 4) (by rw [HVV.out]; rfl), (by exact hA), (fun e => by obtain ⟨a0, a4, a8, a12⟩ := h15 e; simp [upd, a0, a4, a8, a12])⟩
  focus
   clear hd
   obtain ⟨ρ, hρ⟩ : ∃ ρ, a'.eval = ρ := ⟨_, rfl⟩
   have hcst : ∀ v, ρ (.const v) = v := fun v => (congrFun hρ (.const v)).symm
   have l1 : ρ (.tmp 1) = .int .i64 (k : Int) := (congrFun hρ (.tmp 1)).symm.trans (HF.out.lo 1 rfl)
   rw [if_pos (by simp [Region.wanted])]
   unfold Oper.wp
   rw [hρ]
   clear hρ
   go_simp
   exact hK.out _ _ ⟨HVA.out.set (i := 5) (by rw [HVV.out]; rfl), (by exact hA), (fun e => by obtain ⟨a0, a4, a8, a12⟩ := h15 e; simp [upd, a0, a4, a8, a12])⟩
  focus
   obtain ⟨d4, d5, _⟩ := hd
   obtain ⟨ρ, hρ⟩ : ∃ ρ, a'.eval = ρ := ⟨_, rfl⟩
   have hcst : ∀ v, ρ (.const v) = v := fun v => (congrFun hρ (.const v)).symm
   have v4 : ρ (.tmp 32) = .slice (some ⟨bl, ol, none⟩) f.lots.length cap := (congrFun hρ (.tmp 32)).symm.trans ((HF.out.ev 4 rfl d4).trans (HVA.out 4 _ (by rw [HVV.out]; rfl) d4))
   have v5 : ρ (.tmp 33) = .int .i64 (k : Int) := (congrFun hρ (.tmp 33)).symm.trans ((HF.out.ev 5 rfl d5).trans (HVA.out 5 _ (by rw [HVV.out]; rfl) d5))
   rw [if_pos (by simp [Region.wanted])]
   unfold Oper.wp
   rw [hρ]
   clear hρ
   go_simp
   exact hK.out _ _ ⟨HVA.out.set (i := 6) (by rw [HVV.out]; rfl), (by exact hA), (fun e => by obtain ⟨a0, a4, a8, a12⟩ := h15 e; simp [upd, a0, a4, a8, a12])⟩
  focus
   obtain ⟨d6, _⟩ := hd
   obtain ⟨ρ, hρ⟩ : ∃ ρ, a'.eval = ρ := ⟨_, rfl⟩
   have hcst : ∀ v, ρ (.const v) = v := fun v => (congrFun hρ (.const v)).symm
   have v6 : ρ (.tmp 34) = .pointer (some ⟨bl, ol + k * 3, none⟩) := (congrFun hρ (.tmp 34)).symm.trans ((HF.out.ev 6 rfl d6).trans (HVA.out 6 _ (by rw [HVV.out]; rfl) d6))
   rw [if_pos (by simp [Region.wanted])]
   unfold Oper.wp
   rw [hρ]
   clear hρ
   go_simp
   exact hK.out _ _ ⟨HVA.out.set (i := 7) (by rw [HVV.out]; rfl), (by exact hA), (fun e => by obtain ⟨a0, a4, a8, a12⟩ := h15 e; simp [upd, a0, a4, a8, a12])⟩
  focus
   obtain ⟨d7, _⟩ := hd
   obtain ⟨ρ, hρ⟩ : ∃ ρ, a'.eval = ρ := ⟨_, rfl⟩
   have hcst : ∀ v, ρ (.const v) = v := fun v => (congrFun hρ (.const v)).symm
   have v7 : ρ (.tmp 35) = .pointer (some ⟨bl, ol + k * 3, none⟩) := (congrFun hρ (.tmp 35)).symm.trans ((HF.out.ev 7 rfl d7).trans (HVA.out 7 _ (by rw [HVV.out]; rfl) d7))
   have hn15 : L 15 = false := by
    cases e : L 15 with
    | false => rfl
    | true => obtain ⟨a0, a4, a8, a12⟩ := h15 e; rw [HLI.out] at a8; cases a8
   obtain ⟨y1, y2, y3⟩ := HRD.out w' (hA.be hn15)
   rw [if_pos (by simp [Region.wanted])]
   unfold Oper.wp
   rw [hρ]
   clear hρ
   go_simp
   exact hK.out _ _ ⟨HVA.out.set (i := 8) (by rw [HVV.out]; rfl), (by exact hA), (fun e => by obtain ⟨a0, a4, a8, a12⟩ := h15 e; simp [upd, a0, a4, a8, a12])⟩
  focus
   obtain ⟨d8, _⟩ := hd
   obtain ⟨ρ, hρ⟩ : ∃ ρ, a'.eval = ρ := ⟨_, rfl⟩
   have hcst : ∀ v, ρ (.const v) = v := fun v => (congrFun hρ (.const v)).symm
   have v8 : ρ (.tmp 36) = .slice ai N ci := (congrFun hρ (.tmp 36)).symm.trans ((HF.out.ev 8 rfl d8).trans (HVA.out 8 _ (by rw [HVV.out]; rfl) d8))
   rw [if_pos (by simp [Region.wanted])]
   unfold Oper.wp
   rw [hρ]
   clear hρ
   go_simp
   exact hK.out _ _ ⟨HVA.out.set (i := 9) (by rw [HVV.out]; rfl), (by exact hA), (fun e => by obtain ⟨a0, a4, a8, a12⟩ := h15 e; simp [upd, a0, a4, a8, a12])⟩
  focus
   clear hd
   obtain ⟨ρ, hρ⟩ : ∃ ρ, a'.eval = ρ := ⟨_, rfl⟩
   have hcst : ∀ v, ρ (.const v) = v := fun v => (congrFun hρ (.const v)).symm
   have l2 : ρ (.tmp 2) = .int .i64 (it : Int) := (congrFun hρ (.tmp 2)).symm.trans (HF.out.lo 2 rfl)
   rw [if_pos (by simp [Region.wanted])]
   unfold Oper.wp
   rw [hρ]
   clear hρ
   go_simp
   exact hK.out _ _ ⟨HVA.out.set (i := 10) (by rw [HVV.out]; rfl), (by exact hA), (fun e => by obtain ⟨a0, a4, a8, a12⟩ := h15 e; simp [upd, a0, a4, a8, a12])⟩
  focus
   obtain ⟨d9, d10, _⟩ := hd
   obtain ⟨ρ, hρ⟩ : ∃ ρ, a'.eval = ρ := ⟨_, rfl⟩
   have hcst : ∀ v, ρ (.const v) = v := fun v => (congrFun hρ (.const v)).symm
   have v9 : ρ (.tmp 37) = .int .i64 (N : Int) := (congrFun hρ (.tmp 37)).symm.trans ((HF.out.ev 9 rfl d9).trans (HVA.out 9 _ (by rw [HVV.out]; rfl) d9))
   have v10 : ρ (.tmp 38) = .int .i64 (it : Int) := (congrFun hρ (.tmp 38)).symm.trans ((HF.out.ev 10 rfl d10).trans (HVA.out 10 _ (by rw [HVV.out]; rfl) d10))
   rw [if_pos (by simp [Region.wanted])]
   unfold Oper.wp
   rw [hρ]
   clear hρ
   go_simp
   exact hK.out _ _ ⟨HVA.out.set (i := 11) (by rw [HVV.out]; rfl), (by exact hA), (fun e => by obtain ⟨a0, a4, a8, a12⟩ := h15 e; simp [upd, a0, a4, a8, a12])⟩
  focus
   obtain ⟨d11, _, _⟩ := hd
   obtain ⟨ρ, hρ⟩ : ∃ ρ, a'.eval = ρ := ⟨_, rfl⟩
   have hcst : ∀ v, ρ (.const v) = v := fun v => (congrFun hρ (.const v)).symm
   have v11 : ρ (.tmp 39) = .int .i64 (n : Int) := (congrFun hρ (.tmp 39)).symm.trans ((HF.out.ev 11 rfl d11).trans (HVA.out 11 _ (by rw [HVV.out]; rfl) d11))
   rw [if_pos (by simp [Region.wanted])]
   unfold Oper.wp
   rw [hρ]
   clear hρ
   have hn15 : L 15 = false := by
    cases e : L 15 with
    | false => rfl
    | true => obtain ⟨a0, a4, a8, a12⟩ := h15 e; rw [HLI.out] at a12; cases a12
   have hmk := HMK.out w'
   rw [hA.lo HLI.out hn15] at hmk
   go_simp
   exact hK.out _ _ ⟨HVA.out.set (i := 12) (by rw [HVV.out]; rfl), (by exact hA.sm HLI.out hn15 _), (fun e => by obtain ⟨a0, a4, a8, a12⟩ := h15 e; simp [upd, a0, a4, a8, a12])⟩
  focus
   obtain ⟨d1, d2, d12, _⟩ := hd
   obtain ⟨ρ, hρ⟩ : ∃ ρ, a'.eval = ρ := ⟨_, rfl⟩
   have hcst : ∀ v, ρ (.const v) = v := fun v => (congrFun hρ (.const v)).symm
   have v1 : ρ (.tmp 29) = .int .i64 (k : Int) := (congrFun hρ (.tmp 29)).symm.trans ((HF.out.ev 1 rfl d1).trans (HVA.out 1 _ (by rw [HVV.out]; rfl) d1))
   have v2 : ρ (.tmp 30) = .int .i64 (it : Int) := (congrFun hρ (.tmp 30)).symm.trans ((HF.out.ev 2 rfl d2).trans (HVA.out 2 _ (by rw [HVV.out]; rfl) d2))
   have v12 : ρ (.tmp 40) = .slice (some ⟨W2.heap.size, 0, none⟩) n n := (congrFun hρ (.tmp 40)).symm.trans ((HF.out.ev 12 rfl d12).trans (HVA.out 12 _ (by rw [HVV.out]; rfl) d12))
   rw [if_pos (by simp [Region.wanted])]
   unfold Oper.wp
   rw [hρ]
   clear hρ
   go_simp
   exact hK.out _ _ ⟨HVA.out.set (i := 13) (by rw [HVV.out]; rfl), (by exact hA), (fun e => by obtain ⟨a0, a4, a8, a12⟩ := h15 e; simp [upd, a0, a4, a8, a12])⟩
  focus
   obtain ⟨d0, _, d1, d2, d3, d4, d5, d6, d7, d8, d9, d10, d11, d12, d13, _⟩ := hd
   obtain ⟨ρ, hρ⟩ : ∃ ρ, a'.eval = ρ := ⟨_, rfl⟩
   have hcst : ∀ v, ρ (.const v) = v := fun v => (congrFun hρ (.const v)).symm
   have v0 : ρ (.tmp 28) = .pointer (some ⟨b, o, none⟩) := (congrFun hρ (.tmp 28)).symm.trans ((HF.out.ev 0 rfl d0).trans (HVA.out 0 _ (by rw [HVV.out]; rfl) d0))
   rw [if_pos (by simp [Region.wanted])]
   unfold Oper.wp
   rw [hρ]
   clear hρ
   go_simp
   exact hK.out _ _ ⟨HVA.out.set (i := 14) (by rw [HVV.out]; rfl), (by exact hA), (fun e => by obtain ⟨a0, a4, a8, a12⟩ := h15 e; simp [upd, a0, a4, a8, a12])⟩
  focus
   obtain ⟨d14, d13, d0, d1, d2, d3, d4, d5, d6, d7, d8, d9, d10, d11, d12, _, _⟩ := hd
   obtain ⟨ρ, hρ⟩ : ∃ ρ, a'.eval = ρ := ⟨_, rfl⟩
   have hcst : ∀ v, ρ (.const v) = v := fun v => (congrFun hρ (.const v)).symm
   have v14 : ρ (.tmp 42) = .pointer (some ⟨b, o, none⟩) := (congrFun hρ (.tmp 42)).symm.trans ((HF.out.ev 14 rfl d14).trans (HVA.out 14 _ (by rw [HVV.out]; rfl) d14))
   have v13 : ρ (.tmp 41) = .agg #[.int .i64 (k : Int), .int .i64 (it : Int), .slice (some ⟨W2.heap.size, 0, none⟩) n n, .int .i64 0] := (congrFun hρ (.tmp 41)).symm.trans ((HF.out.ev 13 rfl d13).trans (HVA.out 13 _ (by rw [HVV.out]; rfl) d13))
   rw [if_pos (by simp [Region.wanted])]
   unfold Oper.wp
   rw [hρ]
   clear hρ
   have hb := hA.be HLI.out
   have hs1 := HSL2.out.turned (Turned.of_below (X := fun _ => False) hb) (fun e => e)
   obtain ⟨z0, z1, z2, z3, n0, n1, n2, n3⟩ := hs1.cells
   have f0 := hs1.free o
   have f1 := hs1.free (o + 1)
   have f2 := hs1.free (o + 2)
   have f3 := hs1.free (o + 3)
   have hss := Lib.hid (hA.ss HLI.out d12 HSL2.out)
   clear hs1
   go_simp
   exact hK.out undef _ ⟨HVA.out.free (i := 15) (by rw [HVV.out]; rfl) _, (by exact hss.out), (fun _ => by simp [upd, d0, d4, d8, d12])⟩
 focus
  intro L w' xs hL hJ
  obtain ⟨hv, hA, h15⟩ := hJ
  have e0 : xs 0 = .pointer (some ⟨b, o, none⟩) := hv 0 _ (by rw [HVV.out]; rfl) (hL 0 (by decide))
  have e1 : xs 1 = .int .i64 (k : Int) := hv 1 _ (by rw [HVV.out]; rfl) (hL 1 (by decide))
  have e2 : xs 2 = .int .i64 (it : Int) := hv 2 _ (by rw [HVV.out]; rfl) (hL 2 (by decide))
  have e3 : xs 3 = .pointer (some ⟨cF, 1, none⟩) := hv 3 _ (by rw [HVV.out]; rfl) (hL 3 (by decide))
  have e4 : xs 4 = .slice (some ⟨bl, ol, none⟩) f.lots.length cap := hv 4 _ (by rw [HVV.out]; rfl) (hL 4 (by decide))
  have e5 : xs 5 = .int .i64 (k : Int) := hv 5 _ (by rw [HVV.out]; rfl) (hL 5 (by decide))
  have e6 : xs 6 = .pointer (some ⟨bl, ol + k * 3, none⟩) := hv 6 _ (by rw [HVV.out]; rfl) (hL 6 (by decide))
  have e7 : xs 7 = .pointer (some ⟨bl, ol + k * 3, none⟩) := hv 7 _ (by rw [HVV.out]; rfl) (hL 7 (by decide))
  have e8 : xs 8 = .slice ai N ci := hv 8 _ (by rw [HVV.out]; rfl) (hL 8 (by decide))
  have e9 : xs 9 = .int .i64 (N : Int) := hv 9 _ (by rw [HVV.out]; rfl) (hL 9 (by decide))
  have e10 : xs 10 = .int .i64 (it : Int) := hv 10 _ (by rw [HVV.out]; rfl) (hL 10 (by decide))
  have e11 : xs 11 = .int .i64 (n : Int) := hv 11 _ (by rw [HVV.out]; rfl) (hL 11 (by decide))
  have e12 : xs 12 = .slice (some ⟨W2.heap.size, 0, none⟩) n n := hv 12 _ (by rw [HVV.out]; rfl) (hL 12 (by decide))
  have e13 : xs 13 = .agg #[.int .i64 (k : Int), .int .i64 (it : Int), .slice (some ⟨W2.heap.size, 0, none⟩) n n, .int .i64 0] := hv 13 _ (by rw [HVV.out]; rfl) (hL 13 (by decide))
  have e14 : xs 14 = .pointer (some ⟨b, o, none⟩) := hv 14 _ (by rw [HVV.out]; rfl) (hL 14 (by decide))
  simp only [putGo, Act.put, List.setIfInBounds_toArray, List.set_cons_zero, List.set_cons_succ, e0, e1, e2, e3, e4, e5, e6, e7, e8, e9, e10, e11, e12, e13, e14]
  clear hv e0 e1 e2 e3 e4 e5 e6 e7 e8 e9 e10 e11 e12 e13 e14
 have hA := Lib.hid hA
 have hm12 := hL 12 (by decide)
 have hm15 := hL 15 (by decide)
 obtain ⟨W3, hW3⟩ : ∃ X, w' = X := ⟨_, rfl⟩
 rw [hW3] at hA ⊢
 have HMW := Lib.hid (hA.out.md hm12)
 have HSW := Lib.hid (hA.out.st hm15)
 clear hm12 hm15 hL hA hW3
 have HQ3 : Hid (Cell1 W3 s1 (.pointer (some ⟨b, o, none⟩))) := Lib.hid (HQM.out.turned HSW.out.1.tu (fun e => by
  rcases e with e | e
  ·exact e
  ·have h1 := HSL.out.lt
   have h2 := HB1.out.size
   have h3 := HS1.out
   omega))
 have HNUM : Hid (W.heap.size ≤ s1 ∧ s1 < W2.heap.size ∧ W2.heap.size < W3.heap.size) := Lib.hid ⟨by have := HB1.out.size; have := HS1.out; omega, by have := HZ2.out; omega, HMW.out.ltN⟩
 have HCC := Lib.hid (HCA.out W3 s1 W2.heap.size HNUM.out.1 HNUM.out.2.1 HNUM.out.2.2 ((SlotT.of (Turned.of_below (X := fun _ => False) HB2.out) HSL.out.lt (fun _ _ e => e.elim)).trans HSW.out.1) HSW.out.2 HQ3.out HMW.out)
 obtain ⟨kb, hkb⟩ : ∃ x, W2.heap.size = x := ⟨_, rfl⟩
 rw [hkb]
 clear HCA
 go_wp2_with (go_at_call 64; refine HCC.out.mono ?_; rintro e w9 ⟨rfl, hq9⟩; have HQ9 := Lib.hid hq9; clear hq9)
 go_ret
 exact ⟨rfl, HQ9.out⟩
end Go.Proofs.Yteiaeaciaglmgaa
set_option linter.unusedVariables false
set_option linter.unusedSimpArgs false
namespace Go.Proofs.Yteiaeaciaglmgaa
open Go.RowKit
/-- the blocks of Deny -/
structure EnvD where
 B : Nat
 C1 : Nat
 D1 : Nat
 q1 : Nat
 cp : Nat
 ct : Nat
 cF : Nat
 cX : Nat
 cA : Nat
 top : Nat
 vl : Value
 va : Value
 f : Flow
 zs : List Int
structure EnvD.Ok (R : EnvD) : Prop where
 b0 : R.B ≤ R.cp ∧ R.cp < R.top
 b1 : R.B ≤ R.ct ∧ R.ct < R.top
 b2 : R.B ≤ R.top ∧ R.D1 ≤ R.top
 b3 : R.cF < R.top ∧ R.cX < R.top ∧ R.cA < R.top
 ne : R.ct ≠ R.cF ∧ R.ct ≠ R.cX ∧ R.ct ≠ R.cA
 np : R.cp ≠ R.cF ∧ R.cp ≠ R.cX ∧ R.cp ≠ R.cA ∧ R.cp ≠ R.ct
 nl : R.ct < R.C1 ∨ R.D1 ≤ R.ct
 nq : R.cp < R.C1 ∨ R.D1 ≤ R.cp
 ck : checkE R.f = 0
 len : (R.zs.length : Int) = R.f.senders
structure DnyS (R : EnvD) (W : World) : Prop where
 bF : Box W R.cF #[.int .i64 R.f.senders, R.vl]
 bX : Cell1 W R.cX (.pointer (some ⟨R.q1, 0, none⟩))
 bA : Cell1 W R.cA R.va
 lots : LotsAt R.C1 R.D1 W R.q1 R.vl R.f
 flow : IsLots R.B W R.vl R.f.lots
 ints : IsInts R.B W R.va R.zs
 sz : R.top ≤ W.heap.size
theorem DnyS.turned {R : EnvD} (hR : R.Ok) {W W' : World} (h : DnyS R W) {X : Nat → Prop} (ht : Turned X W W') (hX : ∀ q, X q → q = R.ct ∨ q = R.cp ∨ R.top ≤ q) : DnyS R W' := by
 have h0 := hR.b0
 have h1 := hR.b1
 have h2 := hR.b2
 have h3 := hR.b3
 obtain ⟨n1, n2, n3⟩ := hR.ne
 obtain ⟨p1, p2, p3, p4⟩ := hR.np
 have h4 := hR.nl
 have h5 := hR.nq
 have hs := h.sz
 have hn : ∀ q, q < R.top → q ≠ R.ct → q ≠ R.cp → ¬ X q := fun q a b c d => by rcases hX q d with e | e | e; exact b e; exact c e; omega
 have hb := ht.below (B := R.B) (by omega) (fun q hq => hn q (by omega) (by omega) (by omega))
 exact ⟨h.bF.turned ht (hn _ (by omega) (by omega) (by omega)), h.bX.turned ht (hn _ (by omega) (by omega) (by omega)), h.bA.turned ht (hn _ (by omega) (by omega) (by omega)), h.lots.turned ht (fun q a b => hn q (by omega) (by omega) (by omega)), h.flow.below hb (Nat.le_refl _), h.ints.below hb (Nat.le_refl _), Nat.le_trans hs ht.size⟩
/-- a walk inside Deny -/
def EnvG (R : EnvD) (E : EnvW) : Prop := R.top ≤ E.bm ∧ E.bm < E.C
/-- what a call of Deny's function may write: a slot; what else is then kept -/
structure TkD (R : EnvD) (E : EnvW) where
 b : Nat
 o : Nat
 Oth : World → Prop
 keep : EnvG R E → ∀ W W', Oth W → b < W.heap.size → SlotT (fun q => q = R.ct ∨ q = E.bm) b o W W' → Oth W'
structure TkD.Ok {R : EnvD} {E : EnvW} (t : TkD R E) : Prop where
 n1 : t.b ≠ R.ct
 n2 : t.b ≠ E.bm
 n3 : t.b = R.cp ∨ R.top ≤ t.b
structure TkAt (R : EnvD) (E : EnvW) (t : TkD R E) (W : World) : Prop where
 env : DnyS R W
 ct : Cell1 W R.ct (.pointer (some ⟨t.b, t.o, none⟩))
 sl : Slot W t.b t.o
 oth : t.Oth W
 ok : t.Ok
structure TkDn (R : EnvD) (E : EnvW) (D : Option Den) (t : TkD R E) (W : World) : Prop where
 env : DnyS R W
 ct : ∃ v, Cell1 W R.ct v
 sl : Slot W t.b t.o
 oth : t.Oth W
 ok : t.Ok
 den : ∀ d, D = some d → ∃ c0 c1 c2 c3, SlotC t.b t.o c0 c1 c2 c3 W ∧ DenS (fun q => t.b < q ∧ E.C ≤ q ∧ q < W.heap.size) W [c0, c1, c2, c3] d
theorem TkAt.turned {R : EnvD} (hR : R.Ok) {E : EnvW} (hG : EnvG R E) {t : TkD R E} {W W' : World} (h : TkAt R E t W) (ht : Turned (fun q => q = E.bm) W W') : TkAt R E t W' := by
 have b1 := hR.b1
 have g := hG.1
 exact ⟨h.env.turned hR ht (fun q e => .inr (.inr (by omega))), h.ct.turned ht (by omega), h.sl.turned ht h.ok.n2, t.keep hG W W' h.oth h.sl.lt (SlotT.of ht h.sl.lt (fun q _ e => ⟨.inr e, fun e2 => h.ok.n2 (by omega)⟩)), h.ok⟩
theorem DenS.turned {S S' X : Nat → Prop} {W W' : World} {c : List Value} {d : Den} (h : DenS S W c d) (ht : Turned X W W') (hS : ∀ q, S q → q < W.heap.size ∧ ¬ X q) (hS' : ∀ q, S q → S' q) : DenS S' W' c d :=
 (h.keep (fun q hq => ht.block q (hS q hq).1 (hS q hq).2)).mono hS'
theorem TkDn.turned {R : EnvD} (hR : R.Ok) {E : EnvW} (hG : EnvG R E) {D : Option Den} {t : TkD R E} {W W' : World} (h : TkDn R E D t W) (ht : Turned (fun q => q = E.bm) W W') : TkDn R E D t W' := by
 have b1 := hR.b1
 have g := hG.1
 have g2 := hG.2
 have hz := ht.size
 obtain ⟨v, hv⟩ := h.ct
 refine ⟨h.env.turned hR ht (fun q e => .inr (.inr (by omega))), ⟨v, hv.turned ht (by omega)⟩, h.sl.turned ht h.ok.n2, t.keep hG W W' h.oth h.sl.lt (SlotT.of ht h.sl.lt (fun q _ e => ⟨.inr e, fun e2 => h.ok.n2 (by omega)⟩)), h.ok, fun d hd => ?_⟩
 obtain ⟨c0, c1, c2, c3, h1, h2⟩ := h.den d hd
 exact ⟨c0, c1, c2, c3, h1.turned ht h.sl.lt h.ok.n2, h2.turned ht (fun q hq => ⟨hq.2.2, fun e => by have := hq.2.1; omega⟩) (fun q hq => ⟨hq.1, hq.2.1, by have := hq.2.2; omega⟩)⟩
/-- Deny calls walk -/
def denCl (R : EnvD) (hR : R.Ok) (E : EnvW) : Client E where
 T := TkD R E
 At t W := EnvG R E → TkAt R E t W
 Dn m t w part W := EnvG R E → TkDn R E (denyN R.f R.zs m w part) t W
 X t q := q = R.ct ∨ q = t.b
 X0 q := q = R.ct
 res m _ w part := (denyN R.f R.zs m w part).isSome
 keep := fun t W W' h ht hG => (h hG).turned hR hG ht
 keepD := fun m t w p W W' h ht hG => (h hG).turned hR hG ht
structure DenE (R : EnvD) (E : EnvW) : Prop where
 ok : E.Ok
 b : E.B = R.B
 f : E.f = R.f
 pf : E.pf = 41
 p1 : E.p1 = .pointer (some ⟨R.cX, 0, none⟩)
 p2 : E.p2 = .pointer (some ⟨R.cA, 0, none⟩)
 p3 : E.p3 = .pointer (some ⟨R.ct, 0, none⟩)
 p4 : E.p4 = .pointer (some ⟨R.cF, 0, none⟩)
 g : EnvG R E
/-- behind a call that has stored a denial -/
theorem TkAt.done {R : EnvD} (hR : R.Ok) {E : EnvW} (hG : EnvG R E) {t : TkD R E} {W W' : World} (h : TkAt R E t W) {X : Nat → Prop} (ht : SlotT X t.b t.o W W') (hX : ∀ q, q < W.heap.size → X q → q = R.ct ∨ q = E.bm) (hct : ∃ v, Cell1 W' R.ct v) {D : Option Den}
  (hd : ∀ d, D = some d → ∃ c0 c1 c2 c3, SlotC t.b t.o c0 c1 c2 c3 W' ∧ DenS (fun q => t.b < q ∧ E.C ≤ q ∧ q < W'.heap.size) W' [c0, c1, c2, c3] d) : TkDn R E D t W' := by
 have g := hG.1
 have h3 := h.ok.n3
 refine ⟨h.env.turned hR (X := fun q => (X q ∨ q = t.b) ∧ q < W.heap.size) ⟨ht.tu.os, ht.tu.tape, ht.tu.output, ht.tu.size, fun k hk hn => ht.tu.block k hk (fun e => hn ⟨e, hk⟩)⟩ (fun q e => ?_), hct, ht.sl _ h.sl, t.keep hG W W' h.oth h.sl.lt ⟨ht.tu.mono (fun q hq e => e.imp (hX q hq) id), ht.ot, ht.sl⟩, h.ok, hd⟩
 rcases e.1 with e1 | e1
 ·rcases hX q e.2 e1 with e2 | e2
  ·exact .inl e2
  ·exact .inr (.inr (by omega))
 ·rcases h3 with h3 | h3
  ·exact .inr (.inl (by omega))
  ·exact .inr (.inr (by omega))
/-- the sender who is stuck -/
theorem stuckI_eq {f : Flow} {a : List Int} {w : List (List Int)} {part : List Int} (hc : checkE f = 0) (hso : StOk f w part) : leastN (fun i => !leadE f (posS f w part i) (nth a i)) f.senders.toNat = stuckI f a w part := (stuck_least hc hso).symm
theorem stuckI_64 {f : Flow} {a : List Int} {w : List (List Int)} {part : List Int} (hc : checkE f = 0) : I64 (stuckI f a w part) := by
 have h := leastN_bd (badB f a w part) f.senders.toNat
 have h2 : -1 ≤ stuckI f a w part ∧ stuckI f a w part < f.senders.toNat := h
 have := (checkE_ok hc).2.1
 unfold I64
 omega
theorem den_leaf (R : EnvD) (hR : R.Ok) (E : EnvW) (hE : DenE R E) (m : Nat) (w : List (List Int)) (part : List Int) (W : World) (t : TkD R E) (hso : StOk R.f w part) (hse : settleS R.f w part = (w, part)) (hS : WalkS E w part W) (hat : TkAt R E t W) (hfr : E.Free t.b) (lotV inV eachV : Value) (hk : 0 ≤ stuckI R.f R.zs w part) :
  Calls Try.prog E.pf #[.map (some E.bm), lotV, inV, eachV, E.p1, E.p2, E.p3, E.p4] W fun e W' =>
   e = .returned (.bool ((denCl R hR E).res m t w part)) ∧ WalkS E w part W' ∧ Turned (fun q => q = E.bm ∨ (denCl R hR E).X t q) W W' ∧ (denCl R hR E).Dn m t w part W' := by
 rw [hE.pf, hE.p1, hE.p2, hE.p3, hE.p4]
 have hmp := hS.mp
 have hn : E.n = R.f.senders.toNat := by unfold EnvW.n; rw [hE.f]
 rw [hn, hE.f] at hmp
 have b2 := hR.b2
 have hB : R.B ≤ W.heap.size := by have := hat.env.sz; omega
 have hst := stuckI_eq (a := R.zs) hR.ck hso
 refine (denleaf_any R.C1 R.D1 R.B W R.cX R.cA R.ct R.cF R.q1 E.bm t.b t.o R.vl R.va R.f R.zs _ hat.env.bX hat.env.bA hat.ct hat.sl hat.env.lots hR.ck hat.env.ints hR.len hmp hB lotV inV eachV (by rw [hst]; exact hk)).mono ?_
 rintro e W' ⟨rfl, h1, h2⟩
 rw [hst] at h2
 have hd := deny_stuck (n := m) hse hk
 have hct : Cell1 W' R.ct (.pointer (some ⟨t.b, t.o, none⟩)) := hat.ct.turned h1.tu (fun e => by rcases e with e | e; exact e; exact hat.ok.n1 e.symm)
 refine ⟨by show _ = Ending.returned (.bool (denyN R.f R.zs m w part).isSome); rw [hd]; rfl, hS.turned hE.ok h1.tu (fun q e => by rcases e with e | e; exact e.elim; rw [e]; exact hfr), h1.tu.mono (fun q _ e => by rcases e with e | e; exact e.elim; exact .inr (.inr e)), fun hG => hat.done hR hG h1 (fun q _ e => e.elim) ⟨_, hct⟩ (fun d hd2 => ?_)⟩
 rw [hd] at hd2
 cases hd2
 exact ⟨_, _, _, _, h2, DenS.leaf _ _ (stuckI_64 hR.ck)⟩
theorem den_end (R : EnvD) (hR : R.Ok) (E : EnvW) (hE : DenE R E) : EndC E (denCl R hR E) := by
 intro m w W t hso hw hS hat hX
 have hat' := hat hE.g
 have hse := settle_end (f := E.f) (part := []) hw
 rw [hE.f] at hso hse hw
 have hfr := (hX t.b (.inr rfl)).1
 by_cases hk : 0 ≤ stuckI R.f R.zs w []
 ·exact den_leaf R hR E hE m w [] W t hso hse hS hat' hfr _ _ _ hk
 ·rw [hE.pf, hE.p1, hE.p2, hE.p3, hE.p4]
  have hmp := hS.mp
  have hn : E.n = R.f.senders.toNat := by unfold EnvW.n; rw [hE.f]
  rw [hn, hE.f] at hmp
  have b2 := hR.b2
  have hB : R.B ≤ W.heap.size := by have := hat'.env.sz; omega
  have hst := stuckI_eq (a := R.zs) hR.ck hso
  refine (denend_any R.C1 R.D1 R.B W R.cX R.cA R.ct R.cF R.q1 E.bm t.b t.o R.vl R.va R.f R.zs _ hat'.env.bX hat'.env.bA hat'.ct hat'.sl hat'.env.lots hR.ck hat'.env.ints hR.len hmp hB _ _ (by rw [hst]; exact hk)).mono ?_
  rintro e W' ⟨rfl, hb⟩
  have hd := deny_end (n := m) hse hw hk
  refine ⟨by show _ = Ending.returned (.bool (denyN R.f R.zs m w []).isSome); rw [hd]; rfl, hS.ext hE.ok hb, Turned.of_below hb, fun hG => hat'.done hR hG (SlotT.of (X := fun _ => False) (Turned.of_below (X := fun _ => False) hb) hat'.sl.lt (fun _ _ e => e.elim)) (fun q _ e => e.elim) ⟨_, hat'.ct.ext hb⟩ (fun d hd2 => ?_)⟩
  rw [hd] at hd2
  cases hd2
end Go.Proofs.Yteiaeaciaglmgaa
set_option linter.unusedVariables false
set_option linter.unusedSimpArgs false
namespace Go.Proofs.Yteiaeaciaglmgaa
open Go.RowKit
/-- while the children of a denial are made: W0: the world ahead; j: so many are made -/
structure KidS (R : EnvD) (E : EnvW) (b o : Nat) (W0 : World) (qm kb n : Nat) (l i : Int) (kids : List Den) (j : Nat) (W : World) : Prop where
 env : DnyS R W
 cm : Cell1 W qm (.pointer (some ⟨b, o, none⟩))
 slt : SlotT (fun q => q = R.ct ∨ q = E.bm) b o W0 W
 hdr : SlotC b o (.int .i64 l) (.int .i64 i) (.slice (some ⟨kb, 0, none⟩) n n) (.int .i64 0) W
 blk : ∀ k, k < n → Slot W kb (k * 4)
 kid : ∀ k, k < j → ∃ c0 c1 c2 c3, SlotC kb (k * 4) c0 c1 c2 c3 W ∧ DenS (fun q => kb < q ∧ q < W.heap.size) W [c0, c1, c2, c3] (denAt kids k)
 sz : kb < W.heap.size
/-- the numbers of such a call -/
structure KidN (R : EnvD) (E : EnvW) (b : Nat) (W0 : World) (qm kb : Nat) : Prop where
 n0 : b < W0.heap.size
 n1 : b ≠ R.ct
 n2 : b ≠ E.bm
 n3 : W0.heap.size ≤ qm
 n4 : qm < kb
 n5 : E.C ≤ W0.heap.size
theorem KidS.next {R : EnvD} (hR : R.Ok) {E : EnvW} (hG : EnvG R E) {b o : Nat} {W0 : World} {qm kb n : Nat} {l i : Int} {kids : List Den} {j p : Nat} {W W' : World} (hN : KidN R E b W0 qm kb) (h : KidS R E b o W0 qm kb n l i kids j W) (ht : SlotT (fun q => q = R.ct ∨ q = E.bm) kb (p * 4) W W') (hp : j ≤ p) : KidS R E b o W0 qm kb n l i kids j W' := by
 obtain ⟨n0, n1, n2, n3, n4, n5⟩ := hN
 have b1 := hR.b1
 have g1 := hG.1
 have g2 := hG.2
 have hz := ht.tu.size
 have hsz := h.sz
 have hbW : b < W.heap.size := by omega
 have hnb : ¬ ((b = R.ct ∨ b = E.bm) ∨ b = kb) := by omega
 refine ⟨h.env.turned hR ht.tu (fun q e => by omega), h.cm.turned ht.tu (by omega), ⟨h.slt.tu.transE ht.tu (fun q hq e => by omega), fun k hk => (ht.tu.cell (p := ⟨b, k, none⟩) hbW hnb).trans (h.slt.ot k hk), fun o' h' => (h.slt.sl o' h').turned ht.tu hnb⟩, h.hdr.turned ht.tu hbW hnb, fun k hk => ht.sl _ (h.blk k hk), fun k hk => ?_, by omega⟩
 obtain ⟨c0, c1, c2, c3, h1, h2⟩ := h.kid k hk
 exact ⟨c0, c1, c2, c3, h1.other ht (by omega), h2.turned ht.tu (fun q hq => ⟨hq.2, by omega⟩) (fun q hq => ⟨hq.1, by omega⟩)⟩
theorem KidS.turned {R : EnvD} (hR : R.Ok) {E : EnvW} (hG : EnvG R E) {b o : Nat} {W0 : World} {qm kb n : Nat} {l i : Int} {kids : List Den} {j : Nat} {W W' : World} (hN : KidN R E b W0 qm kb) (h : KidS R E b o W0 qm kb n l i kids j W) {X : Nat → Prop} (ht : Turned X W W') (hX : ∀ q, X q → q = R.ct ∨ q = E.bm) : KidS R E b o W0 qm kb n l i kids j W' :=
 h.next hR hG hN (SlotT.of (b := kb) (o := j * 4) ht h.sz (fun q _ e => ⟨hX q e, by have := hX q e; have := hN.n3; have := hN.n4; have := hN.n5; have := hR.b1; have := hG.1; have := hG.2; omega⟩)) (Nat.le_refl _)
theorem den_part (R : EnvD) (hR : R.Ok) (E : EnvW) (hE : DenE R E) : PartC E (denCl R hR E) := by
 intro m w part W t cy ct ci cf cl hso hk hkn hp hS hat hX hvf heach
 have hat' := hat hE.g
 obtain ⟨v, htk, hfr0⟩ := hvf
 have hse := settle_settled (f := E.f) (w := w) (part := part) (.inr ⟨hk, hkn, hp⟩)
 rw [hE.f] at hso hse hk hkn hp
 have hfr := hX t.b (.inr rfl)
 have hG := hE.g
 by_cases hks : 0 ≤ stuckI R.f R.zs w part
 ·exact den_leaf R hR E hE (m + 1) w part W t hso hse hS hat' hfr.1 _ _ _ hks
 ·have hmp := hS.mp
  have hn : E.n = R.f.senders.toNat := by unfold EnvW.n; rw [hE.f]
  rw [hn, hE.f] at hmp
  have b0 := hR.b0
  have b1 := hR.b1
  have b2 := hR.b2
  have g1 := hG.1
  have g2 := hG.2
  have hsz := hat'.env.sz
  have hszC := hS.sz
  have hB : R.B ≤ W.heap.size := by omega
  have hst := stuckI_eq (a := R.zs) hR.ck hso
  obtain ⟨N, hN⟩ : ∃ N, (lotAt R.f.lots w.length).ins.length = N := ⟨_, rfl⟩
  have hn50 : N ≤ 50000 := by rw [← hN]; exact ins_small hR.ck hk
  obtain ⟨n, hnn⟩ : ∃ n, part.length + n = N := ⟨N - part.length, by rw [hN] at hp; omega⟩
  have hfree : freeK part N = n := by
   have h3 := free_all hso.nodup N
   rw [List.filter_eq_self.2 (fun x hx => decide_eq_true (by rw [← hN]; exact hso.low x hx))] at h3
   omega
  obtain ⟨g, hg⟩ : ∃ g : Int → Option Den, g = fun i => denyN R.f R.zs m w (part ++ [i]) := ⟨_, rfl⟩
  have hdp := deny_part (a := R.zs) (n := m) hse hk hks
  rw [hN, ← hg] at hdp
  have hgi : ∀ i : Int, denyN R.f R.zs m w (part ++ [i]) = g i := fun i => by rw [hg]
  simp only [hgi] at hdp
  have hgs : ∀ i : Nat, i < N → hasB part (i : Int) = false → denyN R.f R.zs m (settleS E.f w (part ++ [(i : Int)])).1 (settleS E.f w (part ++ [(i : Int)])).2 = g (i : Int) := fun i hi hh => by
   rw [hE.f, hg]
   exact deny_settle (settle_twice hR.ck (hso.more hkn hp (by rw [hN]; exact hi) hh))
  have hkl := kidL_len g part N
  obtain ⟨kids, hkids⟩ : ∃ kids, kidL g part N = kids := ⟨_, rfl⟩
  rw [hkids, hfree] at hkl
  rw [hkids] at hdp
  obtain ⟨RB, hRB⟩ : ∃ b, eachB (fun (_ i : Nat) => (g (i : Int)).isSome) part N = b := ⟨_, rfl⟩
  rw [hRB] at hdp
  have hres : (denCl R hR E).res (m + 1) t w part = RB := by
   show (denyN R.f R.zs (m + 1) w part).isSome = RB
   rw [hdp]
   cases RB <;> rfl
  rw [hE.pf, hE.p1, hE.p2, hE.p3, hE.p4, hres]
  refine dengo_any R.C1 R.D1 R.B W R.cX R.cA R.ct R.cF R.q1 E.bm t.b t.o R.vl R.va R.f R.zs _ hat'.env.bX hat'.env.bA hat'.ct hat'.sl hat'.env.lots hR.ck hat'.env.ints hR.len hmp hB w.length part.length n _ _ _ _ _ _ _ RB (fun W' => WalkS E w part W' ∧ Turned (fun q => q = E.bm ∨ (denCl R hR E).X t q) W W' ∧ (denCl R hR E).Dn (m + 1) t w part W') (by rw [hst]; exact hks) hat'.env.bF hat'.env.flow hk (by rw [hN]; exact hnn) ?_
  intro W2 qm kb hq1 hq2 hq3 hst2 hsc hcm hck
  have hKN : KidN R E t.b W qm kb := ⟨hfr.2, hat'.ok.n1, hat'.ok.n2, hq1, hq2, hszC⟩
  have hwS2 : WalkS E w part W2 := hS.turned hE.ok hst2.tu (fun q e => by rcases e with e | e; exact e.elim; rw [e]; exact hfr.1)
  have hTX : Turned ((denCl R hR E).X t) W W2 := hst2.tu.mono (fun q _ e => by rcases e with e | e; exact e.elim; exact .inr e)
  have hb3 := hat'.ok.n3
  have hK0 : KidS R E t.b t.o W qm kb n (w.length : Int) (part.length : Int) kids 0 W2 :=
   ⟨hat'.env.turned hR hst2.tu (fun q e => by rcases e with e | e; exact e.elim; rcases hb3 with h | h; exact .inr (.inl (by omega)); exact .inr (.inr (by omega))), hcm, ⟨hst2.tu.mono (fun q _ e => by rcases e with e | e; exact e.elim; exact .inr e), hst2.ot, hst2.sl⟩, hsc, fun k hk => made_slot hck hk, fun k hk => by omega, hq3⟩
  have hct2 : Cell1 W2 R.ct (.pointer (some ⟨t.b, t.o, none⟩)) := hat'.ct.turned hst2.tu (fun e => by rcases e with e | e; exact e; exact hat'.ok.n1 e.symm)
  refine (heach W2 43 (.pointer (some ⟨qm, 0, none⟩)) (.pointer (some ⟨R.ct, 0, none⟩))
   (fun j W' => KidS R E t.b t.o W qm kb n (w.length : Int) (part.length : Int) kids j W' ∧ ∃ v, Cell1 W' R.ct v)
   (fun j W' => j < n ∧ KidS R E t.b t.o W qm kb n (w.length : Int) (part.length : Int) kids j W' ∧ Cell1 W' R.ct (.pointer (some ⟨kb, j * 4, none⟩)))
   (fun j => (⟨kb, j * 4, fun W' => KidS R E t.b t.o W qm kb n (w.length : Int) (part.length : Int) kids j W', fun hG W' W'' h _ ht => h.next hR hG hKN ht (Nat.le_refl _)⟩ : TkD R E))
   (fun W' => (∃ j, KidS R E t.b t.o W qm kb n (w.length : Int) (part.length : Int) kids j W') ∧ ∃ v, Cell1 W' R.ct v)
   (.inl rfl) hwS2 (by omega) ⟨W, rfl, hTX, v, htk, hfr0⟩ ⟨hK0, _, hct2⟩
   (fun j W' W'' a ht => ⟨a.1.turned hR hG hKN ht (fun q e => .inr e), by obtain ⟨u, a2⟩ := a.2; exact ⟨u, a2.turned ht (by omega)⟩⟩)
   (fun j W' W'' a ht => ⟨a.1, a.2.1.turned hR hG hKN ht (fun q e => .inr e), a.2.2.turned ht (by omega)⟩)
   (fun W' W'' a ht => ⟨by obtain ⟨j, a1⟩ := a.1; exact ⟨j, a1.turned hR hG hKN ht (fun q e => .inr e)⟩, by obtain ⟨u, a2⟩ := a.2; exact ⟨u, a2.turned ht (by omega)⟩⟩)
   ?_ (fun j W' a _ => ⟨a.2.1.env, a.2.2, a.2.1.blk j a.1, a.2.1, ⟨by show kb ≠ R.ct; omega, by show kb ≠ E.bm; omega, .inr (by show R.top ≤ kb; omega)⟩⟩) (fun j q e => by
    rcases e with e | e
    ·exact .inl e
    ·have e : q = kb := e
     exact .inr (by omega)) ?_).mono ?_
  ·intro j hj W3 a hw3 hs3
   have hj : j < n := by rw [hE.f, hN, hfree] at hj; exact hj
   obtain ⟨a1, u, a2⟩ := a
   refine (denready_any W3 qm R.ct t.b t.o kb 0 n n u j a1.cm a1.hdr.c2 a2 hj).mono ?_
   rintro e W4 ⟨he, y1, y2⟩
   rw [Nat.zero_add] at y1
   exact ⟨he, ⟨hj, a1.turned hR hG hKN y2 (fun q e => .inl e), y1⟩, y2⟩
  ·intro j i W3 W4 hi hh hfj a ht hdn
   rw [hE.f, hN] at hi
   have hdn' := hdn hG
   rw [hgs i hi hh] at hdn'
   have hK4 : KidS R E t.b t.o W qm kb n (w.length : Int) (part.length : Int) kids j W4 := hdn'.oth
   refine ⟨fun hr => ⟨⟨hK4.env, hK4.cm, hK4.slt, hK4.hdr, hK4.blk, fun k hk => ?_, hK4.sz⟩, hdn'.ct⟩, fun _ => ⟨⟨j, hK4⟩, hdn'.ct⟩⟩
   by_cases e : k < j
   ·exact hK4.kid k e
   ·obtain rfl : k = j := by omega
    have hr : (denyN R.f R.zs m (settleS E.f w (part ++ [(i : Int)])).1 (settleS E.f w (part ++ [(i : Int)])).2).isSome = true := hr
    rw [hgs i hi hh] at hr
    obtain ⟨d, hd⟩ := Option.isSome_iff_exists.1 hr
    obtain ⟨c0, c1, c2, c3, z1, z2⟩ := hdn'.den d hd
    have hka := kidL_at (g := g) hh hi
    rw [hkids, hfj, hd] at hka
    refine ⟨c0, c1, c2, c3, z1, ?_⟩
    rw [hka]
    exact DenS.mono z2 (fun q hq => ⟨hq.1, hq.2.2⟩)
  ·rintro e W' ⟨he, y1, y2, y3⟩
   have hRE : eachB (fun (j i : Nat) => (denyN R.f R.zs m (settleS E.f w (part ++ [(i : Int)])).1 (settleS E.f w (part ++ [(i : Int)])).2).isSome) part (lotAt E.f.lots w.length).ins.length = RB := by
    rw [← hRB, hE.f, hN]
    exact each_congr (fun i hi hh => by have h := hgs i hi hh; rw [hE.f] at h; rw [h])
   have he : e = .returned (.bool (eachB (fun (j i : Nat) => (denyN R.f R.zs m (settleS E.f w (part ++ [(i : Int)])).1 (settleS E.f w (part ++ [(i : Int)])).2).isSome) part (lotAt E.f.lots w.length).ins.length)) := he
   have y3 : SZ (eachB (fun (j i : Nat) => (denyN R.f R.zs m (settleS E.f w (part ++ [(i : Int)])).1 (settleS E.f w (part ++ [(i : Int)])).2).isSome) part (lotAt E.f.lots w.length).ins.length) _ _ W' := y3
   rw [hRE] at he y3
   have hKJ : ∃ j, KidS R E t.b t.o W qm kb n (w.length : Int) (part.length : Int) kids j W' ∧ (RB = true → j = n) ∧ ∃ v, Cell1 W' R.ct v := by
    cases RB with
    | false => obtain ⟨⟨j, k1⟩, k2⟩ := y3.2 rfl; exact ⟨j, k1, (fun e => by cases e), k2⟩
    | true => obtain ⟨k1, k2⟩ := y3.1 rfl; rw [hE.f, hN, hfree] at k1; exact ⟨n, k1, (fun _ => rfl), k2⟩
   obtain ⟨j, k1, k2, k3⟩ := hKJ
   refine ⟨he, y1, (hTX.mono (fun q _ e => .inr e) : Turned (fun q => q = E.bm ∨ (denCl R hR E).X t q) W W2).transE y2 (fun q hq e => ?_), fun hG => hat'.done hR hG k1.slt (fun q _ e => e) k3 (fun d hd => ?_)⟩
   ·rcases e with e | e | e
    ·exact .inl e
    ·exact .inr (.inl e)
    ·omega
   ·rw [hdp] at hd
    cases RB with
    | false => cases hd
    | true =>
     rw [if_pos rfl] at hd
     cases hd
     obtain rfl := k2 rfl
     obtain ⟨F, hF⟩ := Go.Deep.choose_lt (α := List Value) (p := fun k c => ∃ c0 c1 c2 c3, c = [c0, c1, c2, c3] ∧ SlotC kb (k * 4) c0 c1 c2 c3 W' ∧ DenS (fun q => kb < q ∧ q < W'.heap.size) W' [c0, c1, c2, c3] (denAt kids k)) (fun k hk => by
      obtain ⟨c0, c1, c2, c3, z1, z2⟩ := k1.kid k hk
      exact ⟨_, c0, c1, c2, c3, rfl, z1, z2⟩)
     have hwl : w.length ≤ 2000 := by have := (checkE_ok hR.ck).2.2.1; omega
     refine ⟨_, _, _, _, k1.hdr, .mk _ _ 0 kids _ kb 0 j F ⟨some ⟨kb, 0, none⟩, by rw [hkl], by omega, by omega, .inl rfl⟩ (by unfold LK; omega) (by unfold I64; omega) (by unfold I64; omega) (by unfold I64; omega) (fun k hk => ⟨⟨by omega, by omega, k1.sz⟩, fun q u hq => ?_⟩) (fun k hk => ?_)⟩
     ·obtain ⟨c0, c1, c2, c3, z0, z1, z2⟩ := hF k (by omega)
      rw [z0] at hq
      have := z1.list q u hq
      rw [Nat.zero_add]
      exact this
     ·obtain ⟨c0, c1, c2, c3, z0, z1, z2⟩ := hF k (by omega)
      rw [z0]
      exact DenS.mono z2 (fun q hq => ⟨by have := hfr.2; omega, by omega, hq.2⟩)
end Go.Proofs.Yteiaeaciaglmgaa
set_option linter.unusedVariables false
set_option linter.unusedSimpArgs false
namespace Go.Proofs.Yteiaeaciaglmgaa
open Go.RowKit
/-- walk, called by Deny -/
theorem den_walk (R : EnvD) (hR : R.Ok) (w : World) (h : DnyS R w) (hct : Cell1 w R.ct (.pointer (some ⟨R.cp, 0, none⟩))) (hsl : Slot w R.cp 0) (htop : R.top = w.heap.size) (hf : IsFlow R.B w (.int .i64 R.f.senders) R.vl R.f) :
  Calls Try.prog 40 #[.agg #[.int .i64 R.f.senders, R.vl], .func (.func 41) #[] #[.pointer (some ⟨R.cX, 0, none⟩), .pointer (some ⟨R.cA, 0, none⟩), .pointer (some ⟨R.ct, 0, none⟩), .pointer (some ⟨R.cF, 0, none⟩)]] w fun e W' =>
   e = .returned (.bool (denyN R.f R.zs (undM R.f R.f.lots.length) [] []).isSome) ∧ (Turned (fun q => q = R.ct ∨ q = R.cp) w W' ∧ Slot W' R.cp 0 ∧ ∀ d, denyN R.f R.zs (undM R.f R.f.lots.length) [] [] = some d → ∃ c0 c1 c2 c3, SlotC R.cp 0 c0 c1 c2 c3 W' ∧ DenS (fun q => w.heap.size ≤ q ∧ q < W'.heap.size) W' [c0, c1, c2, c3] d) := by
 have b0 := hR.b0
 have b1 := hR.b1
 have b2 := hR.b2
 have hse := deny_settle (a := R.zs) (n := undM R.f R.f.lots.length) (settle_twice hR.ck (StOk.start R.f))
 refine walk_any R.B w _ R.vl R.f hf (by omega) hR.ck _ _ _ _ _ (.inl rfl) (fun E => denCl R hR E) (fun E => (⟨R.cp, 0, fun _ => True, fun _ _ _ _ _ _ => trivial⟩ : TkD R E)) _ (fun W' => Turned (fun q => q = R.ct ∨ q = R.cp) w W' ∧ Slot W' R.cp 0 ∧ ∀ d, denyN R.f R.zs (undM R.f R.f.lots.length) [] [] = some d → ∃ c0 c1 c2 c3, SlotC R.cp 0 c0 c1 c2 c3 W' ∧ DenS (fun q => w.heap.size ≤ q ∧ q < W'.heap.size) W' [c0, c1, c2, c3] d) ?_
 intro E W hE hEB hEf hEvl hEpf h1 h2 h3 h4 hcp hb
 have hG : EnvG R E := ⟨by have := hE.o2; have := hE.o3; have := hE.x3; omega, hE.x3.2⟩
 have hDE : DenE R E := ⟨hE, hEB, hEf, hEpf, h1, h2, h3, h4, hG⟩
 have hs : DnyS R W := h.turned hR (Turned.of_below (X := fun _ => False) hb) (fun _ e => e.elim)
 have hbm : w.heap.size ≤ E.bm := by have := hG.1; omega
 refine ⟨den_end R hR E hDE, den_part R hR E hDE, fun t q e => .inl e, fun _ => ⟨hs, hct.ext hb, hsl.turned (Turned.of_below (X := fun _ => False) hb) (fun e => e), trivial, ⟨hR.np.2.2.2, by show R.cp ≠ E.bm; omega, .inl rfl⟩⟩, fun q e => ?_, ?_, fun W' ht hdn => ?_⟩
 ·rcases e with e | e
  ·omega
  ·have e : q = R.cp := e
   omega
 ·show (denyN R.f R.zs _ _ _).isSome = _
  rw [hse]
 ·have hd := hdn hG
  refine ⟨(Turned.of_below hb).transE ht (fun q hq e => ?_), hd.sl, fun d hdd => ?_⟩
  ·rcases e with e | e | e
   ·omega
   ·exact .inl e
   ·exact .inr e
  ·obtain ⟨c0, c1, c2, c3, y1, y2⟩ := hd.den d (hse.trans hdd)
   exact ⟨c0, c1, c2, c3, y1, DenS.mono y2 (fun q hq => ⟨by have := hG.2; have := hq.2.1; omega, hq.2.2⟩)⟩
set_option maxHeartbeats 8000000 in
set_option maxRecDepth 100000 in
/-- explain.Deny -/
theorem edeny_any (B : Nat) (w : World) (vs vl va : Value) (f : Flow) (zs : List Int) (hf : IsFlow B w vs vl f) (hz : IsInts B w va zs) (hB : B ≤ w.heap.size) :
  Calls Try.prog 16 #[.agg #[vs, vl], va] w fun e w' => ∃ c0 c1 c2 c3, e = .returned (.tuple #[.agg #[c0, c1, c2, c3], .bool (denyB f zs), .int .i64 (errX f zs)]) ∧ DenS (fun q => w.heap.size ≤ q ∧ q < w'.heap.size) w' [c0, c1, c2, c3] (denyR f zs) ∧ Below w.heap.size w w' := by
 have HF := Lib.hid hf
 have HZ := Lib.hid hz
 have hmf := @run_makeFunc_any Try.prog
 obtain ⟨rfl, ⟨hs1, hs2⟩, hl'⟩ := hf
 obtain ⟨b, off, cap, ⟨a, rfl, hcap, hmax, ha⟩, hlen, hc⟩ := hl'
 obtain ⟨az, cz, rfl⟩ := hz.form
 obtain ⟨nz, hnz⟩ : ∃ x, zs.length = x := ⟨_, rfl⟩
 rw [hnz] at HZ ⊢
 obtain ⟨ER, hER⟩ : ∃ x, errX f zs = x := ⟨_, rfl⟩
 have HER := Lib.hid hER
 obtain ⟨DB, hDB⟩ : ∃ x, denyB f zs = x := ⟨_, rfl⟩
 have HDB := Lib.hid hDB
 obtain ⟨DR, hDR⟩ : ∃ x, denyR f zs = x := ⟨_, rfl⟩
 have HDR := Lib.hid hDR
 rw [hER, hDB, hDR]
 clear hz ha hc hER hDB hDR hnz
 go_enter Try.func16, Try.ntmps16
 go_upto_region 1 with fail
 refine wp_name (fun W1 hW1 => ?_)
 have HX1 : Hid (Box W1 w.heap.size #[.int .i64 f.senders, .slice a f.lots.length cap]) := Lib.hid (by rw [hW1]; exact ((Box.new w #[.int .i64 f.senders, .slice a f.lots.length cap] 24).alloc _).alloc _)
 have HA1 : Hid (Cell1 W1 (w.heap.size + 1) (.slice az nz cz)) := Lib.hid (by
  rw [hW1]
  have h := Cell1.new (w.alloc (.cells #[.int .i64 f.senders, .slice a f.lots.length cap] 24)) (.slice az nz cz) 25
  rw [World.size_alloc] at h
  exact h.alloc _)
 have HR1 : Hid (CellsN W1 (w.heap.size + 1 + 1) #[.int .i64 0, .int .i64 0, .slice none 0 0, .int .i64 0]) := Lib.hid (by
  rw [hW1]
  have h := CellsN.new ((w.alloc (.cells #[.int .i64 f.senders, .slice a f.lots.length cap] 24)).alloc (.cells #[.slice az nz cz] 25)) #[.int .i64 0, .int .i64 0, .slice none 0 0, .int .i64 0] 31
  simp only [World.size_alloc] at h
  exact h)
 have HW1 : Hid (Below w.heap.size w W1) := Lib.hid (by rw [hW1]; exact ((box_below' w _).trans ((box_below' _ _).mono (by simp))).trans ((box_below' _ _).mono (by simp; omega)))
 clear hW1
 have r1 := HX1.out.2
 have r2 := HA1.out.cell
 have HCH := Lib.hid (echeck_any B W1 _ _ _ f zs (HF.out.below HW1.out hB) (HZ.out.below HW1.out hB) (Nat.le_trans hB HW1.out.size))
 rw [HER.out] at HCH
 go_wp2_with fail
 refine HCH.out.mono ?_
 rintro e W2 ⟨rfl, hb2⟩
 have HB2 := Lib.hid hb2
 clear hb2
 have HX2 := Lib.hid (HX1.out.ext HB2.out)
 have HA2 := Lib.hid (HA1.out.ext HB2.out)
 have HR2 := Lib.hid (HR1.out.ext HB2.out)
 have HW2 : Hid (Below w.heap.size w W2) := Lib.hid (HW1.out.trans (HB2.out.mono HW1.out.size))
 clear r1 r2
 by_cases he : ER = 0
 ·have he1 : (ER != 0) = false := by simpa using he
  have hck0 : errX f zs = 0 := by rw [HER.out]; exact he
  obtain ⟨hc, hwy, hal⟩ := errX_ok hck0
  have HC := Lib.hid hc
  have HAL := Lib.hid hal
  have HNL := Lib.hid (newLots_any B W2 _ _ f (HF.out.below HW2.out hB) (Nat.le_trans hB HW2.out.size) hc)
  have HEZ := Lib.hid he
  have HDE : Hid (denyN f zs (undM f f.lots.length) [] [] = denyO f zs) := Lib.hid (by unfold denyO; rw [if_pos hck0])
  have x2 := HX2.out.2
  clear he hal hc hwy hck0
  go_upto_region 5 with (go_at_call 32; refine HNL.out.mono ?_; rintro e W3 ⟨q0, rfl, hlots, hb3⟩; have HLO := Lib.hid hlots; have HB23 := Lib.hid hb3; clear hlots hb3)
  clear x2
  go_upto_region 6 with fail
  refine wp_name (fun W5 hW5 => ?_)
  have HB35 : Hid (Below W3.heap.size W3 W5) := Lib.hid (by rw [hW5]; exact (box_below' W3 _).alloc (by simp) _)
  have HCX : Hid (Cell1 W5 W3.heap.size (.pointer (some ⟨q0, 0, none⟩))) := Lib.hid (by rw [hW5]; exact (Cell1.new W3 _ _).alloc _)
  have HCT : Hid (Cell1 W5 (W3.heap.size + 1) (.pointer (some ⟨w.heap.size + 1 + 1, 0, none⟩))) := Lib.hid (by
   rw [hW5]
   have h := Cell1.new (W3.alloc (.cells #[.pointer (some ⟨q0, 0, none⟩)] 60)) (.pointer (some ⟨w.heap.size + 1 + 1, 0, none⟩)) 74
   rw [World.size_alloc] at h
   exact h)
  have HZ5 : Hid (W5.heap.size = W3.heap.size + 1 + 1) := Lib.hid (by rw [hW5]; simp)
  clear hW5
  have HB25 : Hid (Below W2.heap.size W2 W5) := Lib.hid (HB23.out.trans (HB35.out.mono HB23.out.size))
  have HW5 : Hid (Below w.heap.size w W5) := Lib.hid (HW2.out.trans (HB25.out.mono HW2.out.size))
  have HX5 := Lib.hid (HX2.out.ext HB25.out)
  have HR5 := Lib.hid (HR2.out.ext HB25.out)
  have x5 := HX5.out.2
  have hz5 := HZ5.out
  have hs23 := HB23.out.size
  have hltA := HR2.out.lt
  have HWK := Lib.hid (den_walk ⟨B, W2.heap.size, W3.heap.size, q0, w.heap.size + 1 + 1, W3.heap.size + 1, w.heap.size, W3.heap.size, w.heap.size + 1, W5.heap.size, .slice a f.lots.length cap, .slice az nz cz, f, zs⟩
   ⟨⟨by show B ≤ w.heap.size + 1 + 1; omega, by show w.heap.size + 1 + 1 < W5.heap.size; omega⟩, ⟨by show B ≤ W3.heap.size + 1; omega, by show W3.heap.size + 1 < W5.heap.size; omega⟩, ⟨by show B ≤ W5.heap.size; omega, by show W3.heap.size ≤ W5.heap.size; omega⟩, ⟨by show w.heap.size < W5.heap.size; omega, by show W3.heap.size < W5.heap.size; omega, by show w.heap.size + 1 < W5.heap.size; omega⟩,
    ⟨by show W3.heap.size + 1 ≠ w.heap.size; omega, by show W3.heap.size + 1 ≠ W3.heap.size; omega, by show W3.heap.size + 1 ≠ w.heap.size + 1; omega⟩, ⟨by show w.heap.size + 1 + 1 ≠ w.heap.size; omega, by show w.heap.size + 1 + 1 ≠ W3.heap.size; omega, by show w.heap.size + 1 + 1 ≠ w.heap.size + 1; omega, by show w.heap.size + 1 + 1 ≠ W3.heap.size + 1; omega⟩, .inr (by show W3.heap.size ≤ W3.heap.size + 1; omega), .inl (by show w.heap.size + 1 + 1 < W2.heap.size; omega), HC.out, HAL.out⟩
   W5 ⟨HX5.out, HCX.out, HA2.out.ext HB25.out, HLO.out.ext HB35.out, (HF.out.below HW5.out hB).2.2, HZ.out.below HW5.out hB, Nat.le_refl _⟩
   HCT.out ⟨_, HR5.out, by decide⟩ rfl (HF.out.below HW5.out hB))
  have HWK2 : Hid (Calls Try.prog 40 #[.agg #[.int .i64 f.senders, .slice a f.lots.length cap], .func (.func 41) #[] #[.pointer (some ⟨W3.heap.size, 0, none⟩), .pointer (some ⟨w.heap.size + 1, 0, none⟩), .pointer (some ⟨W3.heap.size + 1, 0, none⟩), .pointer (some ⟨w.heap.size, 0, none⟩)]] W5 fun e W' =>
   e = .returned (.bool DB) ∧ (Turned (fun q => q = W3.heap.size + 1 ∨ q = w.heap.size + 1 + 1) W5 W' ∧ Slot W' (w.heap.size + 1 + 1) 0 ∧ ∀ d, denyO f zs = some d → ∃ c0 c1 c2 c3, SlotC (w.heap.size + 1 + 1) 0 c0 c1 c2 c3 W' ∧ DenS (fun q => W5.heap.size ≤ q ∧ q < W'.heap.size) W' [c0, c1, c2, c3] d)) := Lib.hid (by
    have h := HWK.out
    simp only [HDE.out] at h
    have e : (denyO f zs).isSome = DB := HDB.out
    rw [e] at h
    exact h)
  have HNU : Hid (w.heap.size ≤ W3.heap.size ∧ w.heap.size + 1 + 1 < W5.heap.size) := Lib.hid (by omega)
  clear hz5 hs23 hltA HWK
  go_upto_region 7 with (go_at_call 40; refine HWK2.out.mono ?_; rintro e W6 ⟨rfl, ht6⟩; have HT6 := Lib.hid ht6; clear ht6)
  clear x5
  have HB6 : Hid (Below w.heap.size w W6) := Lib.hid (HW5.out.trans (HT6.out.1.below HW5.out.size (fun k hk e => by have := HNU.out; omega)))
  have HSL := Lib.hid HT6.out.2.1
  have f0 := HSL.out.free 0
  have f1 := HSL.out.free 1
  have f2 := HSL.out.free 2
  have f3 := HSL.out.free 3
  cases DB
  ·have HDN : Hid (DR = noD) := Lib.hid (by
    have e : (denyO f zs).isSome = false := HDB.out
    rw [← HDR.out]
    unfold denyR
    rw [Option.isSome_eq_false_iff, Option.isNone_iff_eq_none] at e
    rw [e]
    rfl)
   obtain ⟨z0, z1, z2, z3, n0, n1, n2, n3⟩ := HSL.out.cells
   simp only [Nat.zero_add] at n1 n2 n3
   obtain ⟨hst, hsc⟩ := slot_set HSL.out (Below.refl _ _) (.int .i64 0) (.int .i64 0) (.slice none 0 0) (.int .i64 0)
   simp only [Nat.zero_add] at hst hsc
   have HST := Lib.hid hst
   have u0 := hsc.c0
   have u1 := hsc.c1
   have u2 := hsc.c2
   have u3 := hsc.c3
   simp only [Nat.zero_add] at u1 u2 u3
   clear hst hsc
   go_wp2
   exact bodyPost_ret (v := .tuple #[.agg #[.int .i64 0, .int .i64 0, .slice none 0 0, .int .i64 0], .bool false, .int .i64 0]) (by simp [results, Try.results16, go_sem, u0, u1, u2, u3]) rfl ⟨_, _, _, _, by rw [HEZ.out], by rw [HDN.out]; exact DenS.zero _ _, HB6.out.trans (HST.out.tu.below HB6.out.size (fun k hk e => by rcases e with e | e; exact e; omega))⟩
  ·have e : (denyO f zs).isSome = true := HDB.out
   obtain ⟨d, hd⟩ := Option.isSome_iff_exists.1 e
   have HDD : Hid (DR = d) := Lib.hid (by
    rw [← HDR.out]
    unfold denyR
    rw [hd]
    rfl)
   obtain ⟨c0, c1, c2, c3, hsc0, hds⟩ := HT6.out.2.2 d hd
   obtain ⟨l0, l1, ak, nk, ck, l3, rfl, rfl, rfl, rfl⟩ := hds.form6
   have HDS := Lib.hid hds
   have n0 := hsc0.c0
   have n1 := hsc0.c1
   have n2 := hsc0.c2
   have n3 := hsc0.c3
   simp only [Nat.zero_add] at n1 n2 n3
   obtain ⟨hst, hsc⟩ := slot_set HSL.out (Below.refl _ _) (.int .i64 l0) (.int .i64 l1) (.slice ak nk ck) (.int .i64 l3)
   simp only [Nat.zero_add] at hst hsc
   have HST := Lib.hid hst
   have u0 := hsc.c0
   have u1 := hsc.c1
   have u2 := hsc.c2
   have u3 := hsc.c3
   simp only [Nat.zero_add] at u1 u2 u3
   clear hst hsc e hd hds hsc0
   go_wp2
   exact bodyPost_ret (v := .tuple #[.agg #[.int .i64 l0, .int .i64 l1, .slice ak nk ck, .int .i64 l3], .bool true, .int .i64 0]) (by simp [results, Try.results16, go_sem, u0, u1, u2, u3]) rfl ⟨_, _, _, _, by rw [HEZ.out], by
    rw [HDD.out]
    exact HDS.out.turned HST.out.tu (fun q hq => ⟨hq.2, fun e => by rcases e with e | e; exact e; have := HNU.out; omega⟩) (fun q hq => ⟨by have := HNU.out; omega, by have := HST.out.tu.size; omega⟩), HB6.out.trans (HST.out.tu.below HB6.out.size (fun k hk e => by rcases e with e | e; exact e; omega))⟩
 ·have he1 : (ER != 0) = true := by simpa using he
  have hne : errX f zs ≠ 0 := by rw [HER.out]; exact he
  have HDN : Hid (DR = noD ∧ DB = false) := Lib.hid (by
   rw [← HDR.out, ← HDB.out]
   unfold denyR denyB denyO
   rw [if_neg hne]
   exact ⟨rfl, rfl⟩)
  have HSL : Hid (Slot W2 (w.heap.size + 1 + 1) 0) := Lib.hid ⟨_, HR2.out, by decide⟩
  have f0 := HSL.out.free 0
  have f1 := HSL.out.free 1
  have f2 := HSL.out.free 2
  have f3 := HSL.out.free 3
  have n0 := HR2.out.cell 0
  have n1 := HR2.out.cell 1
  have n2 := HR2.out.cell 2
  have n3 := HR2.out.cell 3
  simp at n0 n1 n2 n3
  obtain ⟨hst, hsc⟩ := slot_set HSL.out (Below.refl _ _) (.int .i64 0) (.int .i64 0) (.slice none 0 0) (.int .i64 0)
  simp only [Nat.zero_add] at hst hsc
  have HST := Lib.hid hst
  have u0 := hsc.c0
  have u1 := hsc.c1
  have u2 := hsc.c2
  have u3 := hsc.c3
  simp only [Nat.zero_add] at u1 u2 u3
  clear hst hsc he hne
  go_wp2
  exact bodyPost_ret (v := .tuple #[.agg #[.int .i64 0, .int .i64 0, .slice none 0 0, .int .i64 0], .bool false, .int .i64 ER]) (by simp [results, Try.results16, go_sem, u0, u1, u2, u3]) rfl ⟨_, _, _, _, by rw [HDN.out.2], by rw [HDN.out.1]; exact DenS.zero _ _, HW2.out.trans (HST.out.tu.below HW2.out.size (fun k hk e => by rcases e with e | e; exact e; omega))⟩
end Go.Proofs.Yteiaeaciaglmgaa
set_option linter.unusedVariables false
set_option linter.unusedSimpArgs false
namespace Go.Proofs.Yteiaeaciaglmgaa
open Go.RowKit
def s2 : Flow := ⟨2, [⟨[0, 1], false, []⟩]⟩
def s0 : Flow := ⟨0, []⟩
def s1 : Flow := ⟨1, []⟩
def sN : Flow := ⟨-1, []⟩
def wantD : Den := .mk 0 0 [.mk 0 1 [.mk (-1) 0 [] 1] 0, .mk (-1) 0 [] 0] 0
theorem s2_make : errX s2 [3, 2] = 0 ∧ makeB s2 [3, 2] = true ∧ makeR s2 [3, 2] = [[1, 0]] := by decide +kernel
theorem s2_right : rightW s2 [3, 2] [[1, 0]] = true ∧ rightW s2 [3, 2] [[0, 1]] = false := by decide +kernel
theorem s2_deny : denyB s2 [3, 2] = false ∧ denyB s2 [2, 2] = true ∧ errX s2 [2, 2] = 0 := by decide +kernel
theorem s2_den : denyR s2 [2, 2] = wantD := by kernel_rfl
theorem s2_ref : refutesB s2 [2, 2] wantD = true ∧ refutesB s2 [2, 2] noD = false := by decide +kernel
theorem s0_make : errX s0 [] = 0 ∧ makeB s0 [] = true ∧ makeR s0 [] = [] := by decide +kernel
theorem s1_make : errX s1 [1] = 0 ∧ makeB s1 [1] = false ∧ denyB s1 [1] = true := by decide +kernel
theorem s1_den : denyR s1 [1] = leafD 0 := by kernel_rfl
theorem s2_short : errX s2 [3] = 1 := by decide +kernel
theorem sN_err : errX sN [] = 250 := by decide +kernel
set_option maxHeartbeats 4000000 in
set_option maxRecDepth 100000 in
/-- two -/
theorem two29_any (w : World) : Calls Try.prog 27 #[] w fun e w' => ∃ a, e = .returned (.agg #[.int .i64 2, .slice a 1 1]) ∧ IsFlow w'.heap.size w' (.int .i64 2) (.slice a 1 1) s2 ∧ Below w.heap.size w w' := by
 go_enter Try.func27, Try.ntmps27
 go_wp2
 have HX : Box ((w.alloc (.cells #[.int .i64 2, .slice (some ⟨w.heap.size + 1 + 1, 0, none⟩) 1 1] 24)).alloc (.cells #[.int .i64 0, .int .i64 1] 3) |>.alloc (.cells #[.slice (some ⟨w.heap.size + 1, 0, none⟩) 2 2, .bool false, .slice none 0 0] 54)) w.heap.size #[.int .i64 2, .slice (some ⟨w.heap.size + 1 + 1, 0, none⟩) 1 1] := ((Box.new w _ _).alloc _).alloc _
 have u0 := HX.2 0
 have u1 := HX.2 1
 simp at u0 u1
 have HI : Box ((w.alloc (.cells #[.int .i64 2, .slice (some ⟨w.heap.size + 1 + 1, 0, none⟩) 1 1] 24)).alloc (.cells #[.int .i64 0, .int .i64 1] 3) |>.alloc (.cells #[.slice (some ⟨w.heap.size + 1, 0, none⟩) 2 2, .bool false, .slice none 0 0] 54)) (w.heap.size + 1) #[.int .i64 0, .int .i64 1] := by
  have h := Box.new (w.alloc (.cells #[.int .i64 2, .slice (some ⟨w.heap.size + 1 + 1, 0, none⟩) 1 1] 24)) #[.int .i64 0, .int .i64 1] 3
  rw [World.size_alloc] at h
  exact h.alloc _
 have HL : Box ((w.alloc (.cells #[.int .i64 2, .slice (some ⟨w.heap.size + 1 + 1, 0, none⟩) 1 1] 24)).alloc (.cells #[.int .i64 0, .int .i64 1] 3) |>.alloc (.cells #[.slice (some ⟨w.heap.size + 1, 0, none⟩) 2 2, .bool false, .slice none 0 0] 54)) (w.heap.size + 1 + 1) #[.slice (some ⟨w.heap.size + 1, 0, none⟩) 2 2, .bool false, .slice none 0 0] := by
  have h := Box.new ((w.alloc (.cells #[.int .i64 2, .slice (some ⟨w.heap.size + 1 + 1, 0, none⟩) 1 1] 24)).alloc (.cells #[.int .i64 0, .int .i64 1] 3)) #[.slice (some ⟨w.heap.size + 1, 0, none⟩) 2 2, .bool false, .slice none 0 0] 54
  simp only [World.size_alloc] at h
  exact h
 exact bodyPost_ret (v := .agg #[.int .i64 2, .slice (some ⟨w.heap.size + 1 + 1, 0, none⟩) 1 1]) (by simp [results, Try.results27, go_sem, u0, u1]) rfl ⟨_, rfl, ⟨rfl, by simp [s2, I64], oneLot HL (by simp) (litInts rfl (by decide) (by omega) (by simp [I64]) (by simp) HI) noInts⟩, ((box_below' w _).trans ((box_below' _ _).mono (by simp))).trans ((box_below' _ _).mono (by simp; omega))⟩
end Go.Proofs.Yteiaeaciaglmgaa
