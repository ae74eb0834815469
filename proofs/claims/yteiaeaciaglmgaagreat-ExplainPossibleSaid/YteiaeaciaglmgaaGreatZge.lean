/- Layers EX2 EX3 EX4 EA9 EX5 EA8 EX6: the walks and the plain laws under the last text, merged and cut to what it uses; nothing is assumed. -/
import Derived.Test.YteiaeaciaglmgaaGreatZgd
set_option linter.unusedVariables false
set_option linter.unusedSimpArgs false
namespace Go.Proofs.YteiaeaciaglmgaaGreat
open Go.RowKit
attribute [local go_sem] Oper.semAt_some
/-- what newLots has made while it runs -/
structure NewL (s A R q p : Nat) (w wr : World) (fx : Array Value) (vl vF : Value) (xs : List Int) (E : List Int) (i : Nat) (M : Int → Nat) : Prop where
 hb : Below s w wr
 box : Box wr s fx
 nm : A = s + 1 ∧ R = s + 1 + 1 ∧ q = s + 1 + 1 + 1 ∧ p = s + 1 + 1 + 1 + 1
 cs : CellsN wr q #[vl, vF, .map (some A), .map (some R)]
 own : OwnInts (s + 5) wr vF xs
 ptr : Cell1 wr p (.pointer (some ⟨q, 0, none⟩))
 em : EndMap wr A E i
 mm : MaskMap wr R M
section
variable {s A R q p : Nat} {w wr : World} {fx : Array Value} {vl vF : Value} {xs : List Int} {E : List Int} {i : Nat} {M : Int → Nat}
theorem NewL.size (h : NewL s A R q p w wr fx vl vF xs E i M) : s + 5 ≤ wr.heap.size := by have := h.ptr.lt; have := h.nm; omega
theorem OwnInts.turnedO {X : Nat → Prop} {B : Nat} {w w' : World} {v : Value} {xs : List Int} (h : OwnInts B w v xs) (ht : Turned X w w') (hx : ∀ k, v.ownBlock = some k → ¬ X k) : OwnInts B w' v xs := by
 refine ⟨⟨h.1.1, ?_⟩, h.2⟩
 rcases h.1.2 with hn | ⟨g, cap, cur, hv, hb, hg, rest⟩
 ·exact Or.inl hn
 ·exact Or.inr ⟨g, cap, cur, hv, hb, (ht.block g (Array.getElem?_eq_some_iff.1 hg).1 (hx g (by rw [hv]; rfl))).trans hg, rest⟩
theorem NewL.turned {X : Nat → Prop} {w' : World} (h : NewL s A R q p w wr fx vl vF xs E i M) (ht : Turned X wr w') (hx : ∀ k, k < s + 5 ∨ vF.ownBlock = some k → ¬ X k) : NewL s A R q p w w' fx vl vF xs E i M :=
 by
 obtain ⟨n1, n2, n3, n4⟩ := h.nm
 exact ⟨h.hb.trans (ht.below (Nat.le_trans (by omega) h.size) (fun k hk => hx k (by omega))), h.box.turned ht (hx _ (by omega)), h.nm, h.cs.turned ht (hx _ (by omega)), h.own.turnedO ht (fun k hk => hx k (.inr hk)), h.ptr.turned ht (hx _ (by omega)), h.em.turned ht (hx _ (by omega)), h.mm.turned ht (hx _ (by omega))⟩
theorem NewL.ext {w' : World} (h : NewL s A R q p w wr fx vl vF xs E i M) (hb : Below wr.heap.size wr w') : NewL s A R q p w w' fx vl vF xs E i M :=
 h.turned (X := fun _ => False) ⟨hb.os, hb.tape, hb.output, hb.size, fun k hk _ => hb.block k hk⟩ (fun _ _ e => e)
theorem NewL.maps {w' : World} {i' : Nat} {M' : Int → Nat} (h : NewL s A R q p w wr fx vl vF xs E i M) (ht : Turned (fun k => k = A ∨ k = R) wr w') (em : EndMap w' A E i') (mm : MaskMap w' R M') : NewL s A R q p w w' fx vl vF xs E i' M' := by
 obtain ⟨n1, n2, n3, n4⟩ := h.nm
 have hsz := h.size
 have hx : ∀ k, k ≠ A → k ≠ R → ¬ (k = A ∨ k = R) := fun k h1 h2 e => by rcases e with e | e; exact h1 e; exact h2 e
 exact ⟨h.hb.trans (ht.below (by omega) (fun k hk => hx k (by omega) (by omega))), h.box.turned ht (hx _ (by omega) (by omega)), h.nm, h.cs.turned ht (hx _ (by omega) (by omega)), h.own.turnedO ht (fun k hk => by have := (h.own.ltX k hk).1; exact hx _ (by omega) (by omega)), h.ptr.turned ht (hx _ (by omega) (by omega)), em, mm⟩
theorem NewL.app {w' : World} {n : Int} {fb fa fs : Bool} {xb xa : Value} (h : NewL s A R q p w wr fx vl vF xs E i M) (hA : ApC (s + 5) q 1 #[vl, vF, .map (some A), .map (some R)] wr vF xs n fb fa fs xb xa w') (hs : fs = true) : NewL s A R q p w w' fx vl xa (xs ++ [n]) E i M := by
 obtain ⟨n1, n2, n3, n4⟩ := h.nm
 have hsz := h.size
 have hx : ∀ k, k < s + 5 → k ≠ q → ¬ (k = q ∨ vF.ownBlock = some k) := by
  rintro k h1 h2 (e | e)
  ·exact h2 e
  ·have := hA.hv k e; omega
 exact ⟨h.hb.trans (hA.tu.below (by omega) (fun k hk => hx k (by omega) (by omega))), h.box.turned hA.tu (hx _ (by omega) (by omega)), h.nm, by simpa using hA.he hs, hA.ha (hA.cz hs), h.ptr.turned hA.tu (hx _ (by omega) (by omega)), h.em.turned hA.tu (hx _ (by omega) (by omega)), h.mm.turned hA.tu (hx _ (by omega) (by omega))⟩
end
theorem OwnInts.at {B : Nat} {w : World} {a : Option Addr} {n c : Nat} {xs : List Int} (h : OwnInts B w (.slice a n c) xs) {k : Nat} (hk : k < xs.length) : ∃ b o, a = some ⟨b, o, none⟩ ∧ n = xs.length ∧ w.cell? ⟨b, o + k, none⟩ = some (.int .i64 (nth xs k)) := by
 obtain ⟨b, o, c', ⟨a', he, _, _, ha⟩, _, _, hc⟩ := h.isInts
 obtain ⟨rfl, rfl, rfl⟩ : a = a' ∧ n = xs.length ∧ c = c' := by simpa using he
 refine ⟨b, o, ?_, rfl, (hc k hk).2⟩
 rcases ha with h | h
 ·exact h
 ·omega
theorem OwnInts.isX {B C : Nat} {w : World} {v : Value} {xs : List Int} (h : OwnInts B w v xs) (hC : C ≤ B) : IsIntsX (fun k => C ≤ k ∧ k < w.heap.size) w v xs := by
 obtain ⟨b, o, c', ⟨a', he, h1, h2, ha⟩, h3, h4, hc⟩ := h.isInts
 refine ⟨b, o, c', ⟨a', he, h1, h2, ha⟩, h3, h4, fun j hj => ⟨⟨?_, (hc j hj).1⟩, (hc j hj).1, (hc j hj).2⟩⟩
 rcases ha with e | e
 ·subst e
  have := (h.ltX b (by rw [he]; rfl)).1
  omega
 ·omega
/-- a flow's lots, as explain has them -/
structure LotsAt (C D : Nat) (w : World) (q : Nat) (vl : Value) (f : Flow) : Prop where
 lay : ∃ vF A R M, (C ≤ q ∧ q < D) ∧ (C ≤ A ∧ A < D) ∧ (C ≤ R ∧ R < D) ∧ D ≤ w.heap.size ∧ CellsN w q #[vl, vF, .map (some A), .map (some R)] ∧ IsIntsX (fun k => C ≤ k ∧ k < D) w vF (firstF f f.lots.length) ∧
  EndMap w A (endsL f) (endsL f).length ∧ MaskMap w R M ∧ MaskOk (endsL f) (rAt f 0) M
theorem NewL.lots {s A R q p : Nat} {w wr : World} {fx : Array Value} {vl vF : Value} {M : Int → Nat} {D : Nat} {f : Flow} (h : NewL s A R q p w wr fx vl vF (firstF f f.lots.length) (endsL f) (endsL f).length M) (hD : D = wr.heap.size) (hm : MaskOk (endsL f) (rAt f 0) M) : LotsAt s D wr q vl f := by
 obtain ⟨n1, n2, n3, n4⟩ := h.nm
 have hsz := h.size
 subst hD
 exact ⟨vF, A, R, M, ⟨by omega, by omega⟩, ⟨by omega, by omega⟩, ⟨by omega, by omega⟩, Nat.le_refl _, h.cs, h.own.isX (by omega), h.em, h.mm, hm⟩
theorem LotsAt.turned {X : Nat → Prop} {C D : Nat} {w w' : World} {q : Nat} {vl : Value} {f : Flow} (h : LotsAt C D w q vl f) (ht : Turned X w w') (hx : ∀ k, C ≤ k → k < D → ¬ X k) : LotsAt C D w' q vl f := by
 obtain ⟨vF, A, R, M, h1, h2, h3, h4, h5, h6, h7, h8, h9⟩ := h.lay
 exact ⟨vF, A, R, M, h1, h2, h3, Nat.le_trans h4 ht.size, h5.turned ht (hx _ h1.1 h1.2), h6.turned ht (fun k hk => hx k hk.1 hk.2), h7.turned ht (hx _ h2.1 h2.2), h8.turned ht (hx _ h3.1 h3.2), h9⟩
theorem LotsAt.ext {C D : Nat} {w w' : World} {q : Nat} {vl : Value} {f : Flow} (h : LotsAt C D w q vl f) (hb : Below w.heap.size w w') : LotsAt C D w' q vl f :=
 h.turned (X := fun _ => False) ⟨hb.os, hb.tape, hb.output, hb.size, fun k hk _ => hb.block k hk⟩ (fun _ _ _ e => e)
def pwI (i : Nat) : Int := ((2 ^ i : Nat) : Int)
theorem shl_mask (i : Nat) (hi : i < 64) : IntKind.u64.wrap ((2 : Int) ^ i) = pwI i := by
 have h : 2 ^ i < 18446744073709551616 := by
  calc 2 ^ i < 2 ^ 64 := Nat.pow_lt_pow_right (by omega) hi
   _ = 18446744073709551616 := by decide
 have e : (2 : Int) ^ i = ((2 ^ i : Nat) : Int) := by simp
 rw [e]
 unfold pwI
 generalize 2 ^ i = n at h
 simp only [IntKind.wrap, IntKind.bits, IntKind.signed]
 simp
 omega
set_option maxHeartbeats 8000000 in
set_option maxRecDepth 100000 in
/-- explain.newLots -/
theorem newLots_any (B : Nat) (w : World) (vs vl : Value) (f : Flow) (hf : IsFlow B w vs vl f) (hB : B ≤ w.heap.size) (h0 : checkE f = 0) :
  Calls Tryz.prog 24 #[.agg #[vs, vl]] w fun e w' => ∃ q, e = .returned (.pointer (some ⟨q, 0, none⟩)) ∧ LotsAt w.heap.size w'.heap.size w' q vl f ∧ Below w.heap.size w w' := by
 have HF := Lib.hid hf
 obtain ⟨rfl, ⟨hs1, hs2⟩, hl⟩ := hf
 obtain ⟨b, off, cap, ⟨a, rfl, hcap, hmax, ha⟩, hlen, hc⟩ := hl
 have HC := Lib.hid hc
 have HA := Lib.hid ha
 have H0 := Lib.hid h0
 have HK := Lib.hid (checkE_ok h0)
 have hl2 : f.lots.length ≤ 2000 := HK.out.2.2.1
 have HI := Lib.hid (fun k (hk : k < f.lots.length) => ok_ins h0 hk)
 have hmm := @run_makeMap Tryz.prog
 clear hc ha h0
 refine callsIn_wide.1 (callsIn_of_wp_marks (n := 11) Tryz.func24 rfl trivial (wpIn_wide.2 ?_))
 simp only [Tryz.ntmps24, List.size_toArray, List.length_cons, List.length_nil, Nat.reduceAdd, Nat.reduceSub, Array.replicate_succ, Array.replicate_zero, List.push_toArray, List.append_toArray, List.nil_append, List.cons_append]
 go_upto_region 3 with fail
 refine wp_name (fun W1 hW1 => ?_)
 obtain ⟨E, hE⟩ : ∃ x, endsL f = x := ⟨_, rfl⟩
 have HEE := Lib.hid hE
 have hn0 := (show NewL w.heap.size (w.heap.size + 1) (w.heap.size + 1 + 1) (w.heap.size + 1 + 1 + 1) (w.heap.size + 1 + 1 + 1 + 1) w W1 #[.int .i64 f.senders, .slice a f.lots.length cap] (.slice a f.lots.length cap) (.slice none 0 0) [] E 0 (fun _ => 0) by
  rw [hW1]
  refine ⟨?_, ?_, ⟨rfl, rfl, rfl, rfl⟩, ?_, OwnInts.nil _ _, ?_, ?_, ?_⟩
  ·exact (((((box_below' w _).alloc (by simp) _).alloc (by simp; omega) _).alloc (by simp; omega) _).alloc (by simp; omega) _)
  ·exact ((((Box.new w #[.int .i64 f.senders, .slice a f.lots.length cap] 24).alloc _).alloc _).alloc _).alloc _
  ·have h := CellsN.new (((w.alloc (.cells #[.int .i64 f.senders, .slice a f.lots.length cap] 24)).alloc (.map #[] 0)).alloc (.map #[] 0)) #[.slice a f.lots.length cap, .slice none 0 0, .map (some (w.heap.size + 1)), .map (some (w.heap.size + 1 + 1))] 62
   simp only [World.size_alloc] at h
   exact h.alloc _
  ·have h := Cell1.new ((((w.alloc (.cells #[.int .i64 f.senders, .slice a f.lots.length cap] 24)).alloc (.map #[] 0)).alloc (.map #[] 0)).alloc (.cells #[.slice a f.lots.length cap, .slice none 0 0, .map (some (w.heap.size + 1)), .map (some (w.heap.size + 1 + 1))] 62)) (.pointer (some ⟨w.heap.size + 1 + 1 + 1, 0, none⟩)) 55
   simp only [World.size_alloc] at h
   exact h
  ·have h : EndMap ((w.alloc (.cells #[.int .i64 f.senders, .slice a f.lots.length cap] 24)).alloc (.map #[] 0)) (w.heap.size + 1) E 0 := ⟨[], by have h := IntMap.made (w.alloc (.cells #[.int .i64 f.senders, .slice a f.lots.length cap] 24)); rw [World.size_alloc] at h; exact h, fun x => by simp [alook, hasB]⟩
   exact ((h.ext (box_below' _ _)).ext (box_below' _ _)).ext (box_below' _ _)
  ·have h := MaskMap.made ((w.alloc (.cells #[.int .i64 f.senders, .slice a f.lots.length cap] 24)).alloc (.map #[] 0))
   simp only [World.size_alloc] at h
   exact (h.ext (box_below' _ _)).ext (box_below' _ _))
 clear hW1
 obtain ⟨p, hp⟩ : ∃ x, w.heap.size + 1 + 1 + 1 + 1 = x := ⟨_, rfl⟩
 obtain ⟨q, hq⟩ : ∃ x, w.heap.size + 1 + 1 + 1 = x := ⟨_, rfl⟩
 obtain ⟨R, hR⟩ : ∃ x, w.heap.size + 1 + 1 = x := ⟨_, rfl⟩
 obtain ⟨A, hA⟩ : ∃ x, w.heap.size + 1 = x := ⟨_, rfl⟩
 rw [hp, hq, hR, hA] at hn0
 rw [hp, hq, hR, hA]
 have HN0 := Lib.hid hn0
 have HNM : Hid (A = w.heap.size + 1 ∧ R = w.heap.size + 1 + 1 ∧ q = w.heap.size + 1 + 1 + 1 ∧ p = w.heap.size + 1 + 1 + 1 + 1) := Lib.hid ⟨hA.symm, hR.symm, hq.symm, hp.symm⟩
 have n1 : p ≠ q := by omega
 have x1 := hn0.box.2
 clear hn0 hp hq hR hA hE
 go_wp2_with fail
 clear x1
 go_loopw [4, 28] (fun n' i' wr => ∃ k vF, k ≤ f.lots.length ∧ i' = .int .i64 (k : Nat) ∧ n' = .int .i64 (beforeI f k) ∧ NewL w.heap.size A R q p w wr #[.int .i64 f.senders, .slice a f.lots.length cap] (.slice a f.lots.length cap) vF (firstF f k) E 0 (fun _ => 0)) (fun _ i' _ => f.lots.length - (intOf i').toNat)
 case atStart => exact ⟨0, _, by omega, rfl, rfl, HN0.out⟩
 case round =>
  obtain ⟨k, vF, hk, rfl, rfl, hn⟩ := hrel
  have HN := Lib.hid hn
  have hp1 := hn.ptr.cell
  have hx1 := hn.box.2
  obtain ⟨av, nv, cv, rfl⟩ := hn.own.form'
  clear hn
  by_cases hlt : k < f.lots.length
  ·obtain rfl : a = some ⟨b, off, none⟩ := by rcases HA.out with h | h; exact h; omega
   obtain ⟨vi, vk, vp, q1, q2, q3, hli, rfl, hlp⟩ := HC.out k hlt
   obtain ⟨ai, ci, rfl⟩ := hli.form
   obtain ⟨ap, cp, rfl⟩ := hlp.form
   have hbk : Below B w wr := HN.out.hb.mono hB
   have c1 := (q1.below hbk (Nat.le_refl _)).2
   have c2 := (q2.below hbk (Nat.le_refl _)).2
   have c3 := (q3.below hbk (Nat.le_refl _)).2
   obtain ⟨g1, g2, g3⟩ := HI.out k hlt
   have g4 := before_bd H0.out (k := k + 1) (by omega)
   have HBS : Hid (beforeI f (k + 1) = beforeI f k + (lotAt f.lots k).ins.length) := Lib.hid rfl
   have HFS : Hid (firstF f (k + 1) = firstF f k ++ [beforeI f k]) := Lib.hid rfl
   rw [HBS.out] at g4
   obtain ⟨N, hN⟩ : ∃ x, beforeI f k = x := ⟨_, rfl⟩
   obtain ⟨m, hm⟩ : ∃ x, (lotAt f.lots k).ins.length = x := ⟨_, rfl⟩
   rw [hm] at c1 HBS g1 g4
   rw [hN] at HBS HFS g2 g3 g4 ⊢
   obtain ⟨g5, g6⟩ := g4
   obtain ⟨kn, hkn⟩ : ∃ x, (lotAt f.lots k).known = x := ⟨_, rfl⟩
   rw [hkn] at c2
   clear hN hm hkn q1 q2 q3 hli hlp hbk
   go_upto_region 6 with fail
   refine wp_name (fun W5 hW5 => ?_)
   have HN5 : Hid (NewL w.heap.size A R q p w W5 #[.int .i64 f.senders, .slice (some ⟨b, off, none⟩) f.lots.length cap] (.slice (some ⟨b, off, none⟩) f.lots.length cap) (.slice av nv cv) (firstF f k) E 0 (fun _ => 0)) := Lib.hid (by rw [hW5]; exact HN.out.ext (box_below' wr _))
   have HX5 : Hid (Box W5 wr.heap.size #[.slice ai m ci, .bool kn, .slice ap (lotAt f.lots k).perm.length cp]) := Lib.hid (by rw [hW5]; exact Box.new wr _ _)
   have HZ5 : Hid (∀ k', (Value.slice av nv cv).ownBlock = some k' → k' < wr.heap.size) := Lib.hid (fun k' e => (HN.out.own.ltX k' e).2)
   have HSZ := Lib.hid HN.out.size
   clear hW5 c1 c2 c3 hp1 hx1 HN
   obtain ⟨V, hV⟩ : ∃ V : List (Option Value), V = [some (.pointer (some ⟨q, 0, none⟩)), some (.pointer (some ⟨q, 0, none⟩)), some (.pointer (some ⟨q, 0, none⟩)), some (.pointer (some ⟨q, 1, none⟩)), some (.slice av nv cv), some (.int .i64 N), none, none, some (.pointer (some ⟨q, 0, none⟩)), some (.pointer (some ⟨q, 1, none⟩)), none] := ⟨_, rfl⟩
   have HVV := Lib.hid hV
   clear hV
   refine wp_region_V [some 32, some 33, some 34, some 35, some 36, some 37, some 38, some 39, some 40, some 41, none] (fun L w' xs => ValsAt V L xs ∧ (ApC (w.heap.size + 5) q 1 #[.slice (some ⟨b, off, none⟩) f.lots.length cap, .slice av nv cv, .map (some A), .map (some R)] W5 (.slice av nv cv) (firstF f k) N (L 6) (L 7) (L 10) (xs 6) (xs 7) w' ∧ (L 10 = true → L 4 = true))) (by kernel_rfl) (by kernel_rfl) (by rfl) (by rfl) (by rfl) ?_ ?_ ?_
   focus
    exact fun xs => ⟨ValsAt.none _ _, (by exact ApC.start (by have := HNM.out; omega) HN5.out.size HN5.out.own HN5.out.cs 1), (fun e => by cases e)⟩
   focus
    refine ⟨?_, ?_, ?_, ?_, ?_, ?_, ?_, ?_, ?_, ?_, ?_, trivial⟩
    all_goals
     intro L a' w' xs hi hd hf hJ K hK
     obtain ⟨hv, hA, h9⟩ := hJ
     have HF := Lib.hid hf
     have HVA := Lib.hid hv
     have HLI := Lib.hid hi
     clear hf hv hi
    focus
     clear hd
     obtain ⟨ρ, hρ⟩ : ∃ ρ, a'.eval = ρ := ⟨_, rfl⟩
     have hcst := cstE hρ
     have l3 : ρ (.tmp 3) = .pointer (some ⟨p, 0, none⟩) := (congrFun hρ (.tmp 3)).symm.trans (HF.out.lo 3 rfl)
     have m0 := (hA.cell (k := p) (i := 0) (by have := HNM.out; omega) n1).trans HN5.out.ptr.cell
     rw [if_pos (by simp [Region.wanted])]
     unfold Oper.wp
     rw [hρ]
     clear hρ
     go_simp
     exact hK.out _ _ ⟨HVA.out.set (i := 0) (by rw [HVV.out]; rfl), (by simp only [une xs 6 0 rfl, une xs 7 0 rfl]; exact hA), (by exact h9)⟩
    focus
     clear hd
     obtain ⟨ρ, hρ⟩ : ∃ ρ, a'.eval = ρ := ⟨_, rfl⟩
     have hcst := cstE hρ
     have l3 : ρ (.tmp 3) = .pointer (some ⟨p, 0, none⟩) := (congrFun hρ (.tmp 3)).symm.trans (HF.out.lo 3 rfl)
     have m0 := (hA.cell (k := p) (i := 0) (by have := HNM.out; omega) n1).trans HN5.out.ptr.cell
     rw [if_pos (by simp [Region.wanted])]
     unfold Oper.wp
     rw [hρ]
     clear hρ
     go_simp
     exact hK.out _ _ ⟨HVA.out.set (i := 1) (by rw [HVV.out]; rfl), (by simp only [une xs 6 1 rfl, une xs 7 1 rfl]; exact hA), (by exact h9)⟩
    focus
     obtain ⟨d1, _⟩ := hd
     obtain ⟨ρ, hρ⟩ : ∃ ρ, a'.eval = ρ := ⟨_, rfl⟩
     have hcst := cstE hρ
     have v1 : ρ (.tmp 33) = .pointer (some ⟨q, 0, none⟩) := (congrFun hρ (.tmp 33)).symm.trans ((HF.out.ev 1 rfl d1).trans (HVA.out 1 _ (by rw [HVV.out]; rfl) d1))
     rw [if_pos (by simp [Region.wanted])]
     unfold Oper.wp
     rw [hρ]
     clear hρ
     go_simp
     exact hK.out _ _ ⟨HVA.out.set (i := 2) (by rw [HVV.out]; rfl), (by simp only [une xs 6 2 rfl, une xs 7 2 rfl]; exact hA), (by exact h9)⟩
    focus
     obtain ⟨d2, _⟩ := hd
     obtain ⟨ρ, hρ⟩ : ∃ ρ, a'.eval = ρ := ⟨_, rfl⟩
     have hcst := cstE hρ
     have v2 : ρ (.tmp 34) = .pointer (some ⟨q, 0, none⟩) := (congrFun hρ (.tmp 34)).symm.trans ((HF.out.ev 2 rfl d2).trans (HVA.out 2 _ (by rw [HVV.out]; rfl) d2))
     rw [if_pos (by simp [Region.wanted])]
     unfold Oper.wp
     rw [hρ]
     clear hρ
     go_simp
     exact hK.out _ _ ⟨HVA.out.set (i := 3) (by rw [HVV.out]; rfl), (by simp only [une xs 6 3 rfl, une xs 7 3 rfl]; exact hA), (by exact h9)⟩
    focus
     obtain ⟨d3, _⟩ := hd
     obtain ⟨ρ, hρ⟩ : ∃ ρ, a'.eval = ρ := ⟨_, rfl⟩
     have hcst := cstE hρ
     have v3 : ρ (.tmp 35) = .pointer (some ⟨q, 1, none⟩) := (congrFun hρ (.tmp 35)).symm.trans ((HF.out.ev 3 rfl d3).trans (HVA.out 3 _ (by rw [HVV.out]; rfl) d3))
     have e10 : L 10 = false := by
      cases e : L 10 with
      | false => rfl
      | true => have := h9 e; rw [HLI.out] at this; cases this
     have m0 := (hA.hc e10).cell 1
     simp at m0
     rw [if_pos (by simp [Region.wanted])]
     unfold Oper.wp
     rw [hρ]
     clear hρ
     go_simp
     exact hK.out _ _ ⟨HVA.out.set (i := 4) (by rw [HVV.out]; rfl), (by simp only [une xs 6 4 rfl, une xs 7 4 rfl]; exact hA), (fun _ => rfl)⟩
    focus
     clear hd
     obtain ⟨ρ, hρ⟩ : ∃ ρ, a'.eval = ρ := ⟨_, rfl⟩
     have hcst := cstE hρ
     have l4 : ρ (.tmp 4) = .int .i64 N := (congrFun hρ (.tmp 4)).symm.trans (HF.out.lo 4 rfl)
     rw [if_pos (by simp [Region.wanted])]
     unfold Oper.wp
     rw [hρ]
     clear hρ
     go_simp
     exact hK.out _ _ ⟨HVA.out.set (i := 5) (by rw [HVV.out]; rfl), (by simp only [une xs 6 5 rfl, une xs 7 5 rfl]; exact hA), (by exact h9)⟩
    focus
     obtain ⟨d5, _⟩ := hd
     obtain ⟨ρ, hρ⟩ : ∃ ρ, a'.eval = ρ := ⟨_, rfl⟩
     have hcst := cstE hρ
     have v5 : ρ (.tmp 37) = .int .i64 N := (congrFun hρ (.tmp 37)).symm.trans ((HF.out.ev 5 rfl d5).trans (HVA.out 5 _ (by rw [HVV.out]; rfl) d5))
     rw [if_pos (by simp [Region.wanted])]
     unfold Oper.wp
     rw [hρ]
     clear hρ
     go_simp
     exact hK.out _ _ ⟨HVA.out.free (i := 6) (by rw [HVV.out]; rfl) _, (by simp only [une xs 7 6 rfl, updV_self]; exact hA.sb HLI.out rfl), (by exact h9)⟩
    focus
     obtain ⟨d4, d6, _⟩ := hd
     have v4 : a'.eval (.tmp 36) = .slice av nv cv := (HF.out.ev 4 rfl d4).trans (HVA.out 4 _ (by rw [HVV.out]; rfl) d4)
     have v6 : a'.eval (.tmp 38) = xs 6 := HF.out.ev 6 rfl d6
     rw [if_pos (by simp [Region.wanted])]
     obtain ⟨q', e6, q1, q2⟩ := hA.hb d6 HLI.out
     rw [e6] at v6
     have hsrc : Src w' 1 (.slice (some ⟨q', 0, none⟩) 1 1) [N].length ([N].map (Value.int .i64)) := src_one (q2.cell 0) rfl
     obtain ⟨v', w5, y1, y2, y3, y4⟩ := run_append_ints (ty := 25) (hA.h0 HLI.out) hsrc (by intro y hy; simp at hy; subst hy; unfold I64; omega) (by have := firstF_len f k; simp; omega) (Nat.le_trans hA.hC.2 hA.tu.size)
     refine wp_of_append w' rfl v4 v6 y1 ?_
     exact hK.out _ _ ⟨HVA.out.free (i := 7) (by rw [HVV.out]; rfl) _, (by simp only [une xs 6 7 rfl, updV_self]; exact hA.sa HLI.out d6 y2 y3), (by exact h9)⟩
    focus
     obtain ⟨d0, _, d1, d2, d3, d4, d5, d6, d7, _⟩ := hd
     obtain ⟨ρ, hρ⟩ : ∃ ρ, a'.eval = ρ := ⟨_, rfl⟩
     have hcst := cstE hρ
     have v0 : ρ (.tmp 32) = .pointer (some ⟨q, 0, none⟩) := (congrFun hρ (.tmp 32)).symm.trans ((HF.out.ev 0 rfl d0).trans (HVA.out 0 _ (by rw [HVV.out]; rfl) d0))
     rw [if_pos (by simp [Region.wanted])]
     unfold Oper.wp
     rw [hρ]
     clear hρ
     go_simp
     exact hK.out _ _ ⟨HVA.out.set (i := 8) (by rw [HVV.out]; rfl), (by simp only [une xs 6 8 rfl, une xs 7 8 rfl]; exact hA), (by exact h9)⟩
    focus
     obtain ⟨d8, d0, d1, d2, d3, d4, d5, d6, d7, _⟩ := hd
     obtain ⟨ρ, hρ⟩ : ∃ ρ, a'.eval = ρ := ⟨_, rfl⟩
     have hcst := cstE hρ
     have v8 : ρ (.tmp 40) = .pointer (some ⟨q, 0, none⟩) := (congrFun hρ (.tmp 40)).symm.trans ((HF.out.ev 8 rfl d8).trans (HVA.out 8 _ (by rw [HVV.out]; rfl) d8))
     rw [if_pos (by simp [Region.wanted])]
     unfold Oper.wp
     rw [hρ]
     clear hρ
     go_simp
     exact hK.out _ _ ⟨HVA.out.set (i := 9) (by rw [HVV.out]; rfl), (by simp only [une xs 6 9 rfl, une xs 7 9 rfl]; exact hA), (by exact h9)⟩
    focus
     obtain ⟨d9, d7, _, d0, d1, d2, d3, d4, d5, d6, _, _⟩ := hd
     obtain ⟨ρ, hρ⟩ : ∃ ρ, a'.eval = ρ := ⟨_, rfl⟩
     have hcst := cstE hρ
     have v9 : ρ (.tmp 41) = .pointer (some ⟨q, 1, none⟩) := (congrFun hρ (.tmp 41)).symm.trans ((HF.out.ev 9 rfl d9).trans (HVA.out 9 _ (by rw [HVV.out]; rfl) d9))
     have v7 : ρ (.tmp 39) = xs 7 := (congrFun hρ (.tmp 39)).symm.trans (HF.out.ev 7 rfl d7)
     rw [if_pos (by simp [Region.wanted])]
     unfold Oper.wp
     rw [hρ]
     clear hρ
     obtain ⟨a8, n8, c8, e8⟩ := (hA.ha d7).form'
     have HE8 := Lib.hid e8
     rw [e8] at v7
     have hSS := Lib.hid (hA.ss HLI.out d7)
     rw [e8] at hSS
     have fz := (hA.hc HLI.out).free 1
     have m0 := (hA.hc HLI.out).cell 1
     simp at m0
     clear e8
     go_simp
     exact hK.out undef _ ⟨HVA.out.free (i := 10) (by rw [HVV.out]; rfl) _, (by simp only [une xs 6 10 rfl, une xs 7 10 rfl]; rw [HE8.out]; exact hSS.out), (fun _ => d4)⟩
   focus
    intro L w' xs hL hJ
    obtain ⟨hv, hA, h9⟩ := hJ
    have e0 : xs 0 = .pointer (some ⟨q, 0, none⟩) := hv 0 _ (by rw [HVV.out]; rfl) (hL 0 (by decide))
    have e1 : xs 1 = .pointer (some ⟨q, 0, none⟩) := hv 1 _ (by rw [HVV.out]; rfl) (hL 1 (by decide))
    have e2 : xs 2 = .pointer (some ⟨q, 0, none⟩) := hv 2 _ (by rw [HVV.out]; rfl) (hL 2 (by decide))
    have e3 : xs 3 = .pointer (some ⟨q, 1, none⟩) := hv 3 _ (by rw [HVV.out]; rfl) (hL 3 (by decide))
    have e4 : xs 4 = .slice av nv cv := hv 4 _ (by rw [HVV.out]; rfl) (hL 4 (by decide))
    have e5 : xs 5 = .int .i64 N := hv 5 _ (by rw [HVV.out]; rfl) (hL 5 (by decide))
    have e8 : xs 8 = .pointer (some ⟨q, 0, none⟩) := hv 8 _ (by rw [HVV.out]; rfl) (hL 8 (by decide))
    have e9 : xs 9 = .pointer (some ⟨q, 1, none⟩) := hv 9 _ (by rw [HVV.out]; rfl) (hL 9 (by decide))
    simp only [putGo, Act.put, List.setIfInBounds_toArray, List.set_cons_zero, List.set_cons_succ, e0, e1, e2, e3, e4, e5, e8, e9]
    clear hv e0 e1 e2 e3 e4 e5 e8 e9
   have hX10 := hL 10 (by decide)
   have hX7 := hL 7 (by decide)
   have HAP := Lib.hid hA
   clear h9 hA hL
   have HN6 := Lib.hid (HN5.out.app HAP.out hX10)
   have hlb := (HAP.out.tu.cell (p := ⟨wr.heap.size, 0, none⟩) HX5.out.1 (by have := HSZ.out; have := HNM.out; rintro (e | e); (have e2 : wr.heap.size = q := e); omega; exact absurd (HZ5.out _ e) (Nat.lt_irrefl _))).trans (HX5.out.2 0)
   go_wp2
   go_roundw
   case rel => exact ⟨k + 1, _, by omega, by go_num, by rw [HBS.out], by rw [HFS.out]; exact HN6.out⟩
   case measure => simp [intOf]; omega
  ·obtain rfl : k = f.lots.length := by omega
   go_wp2_with fail
   have HCE := Lib.hid (fEnds_any B wr _ _ f (HF.out.below HN.out.hb hB) (by have := HN.out.size; omega))
   refine HCE.out.mono ?_
   rintro e W7 ⟨ve, rfl, ho7, hb7⟩
   have HO7 := Lib.hid ho7
   have HN7 := Lib.hid (HN.out.ext hb7)
   have HSZ7 := Lib.hid hb7.size
   have HER : Hid (endsR f = E) := Lib.hid (by rw [← HEE.out]; unfold endsR; rw [if_pos H0.out])
   rw [HER.out] at HO7
   obtain ⟨ae, ce, rfl, hob⟩ := HO7.out.form
   have HNO : Hid (E.Nodup) := Lib.hid (by rw [← HEE.out]; exact ends_nodup f _)
   have hE64 : E.length ≤ 64 := by have := ends_64 H0.out; rw [HEE.out] at this; exact this
   obtain ⟨be, oe, cee, ⟨ae', hae, hce1, hce2, hae'⟩, hel, hez, hec⟩ := HO7.out.isInts
   obtain ⟨rfl, rfl⟩ : ae = ae' ∧ ce = cee := by simpa using hae
   have HEC := Lib.hid hec
   have HAE := Lib.hid hae'
   have HEZ := Lib.hid hez
   have HOB : Hid (∀ k, (Value.slice ae E.length ce).ownBlock = some k → w.heap.size + 5 ≤ k) := Lib.hid (fun k e => by have := (hob k e).1; have := HN.out.size; omega)
   clear ho7 hb7 hp1 hx1 HCE HER hob hae hae' hec hez
   go_upto_region 11 with fail
   go_loopw [55] (fun i' wr => ∃ i : Nat, i ≤ E.length ∧ i' = .int .i64 (i : Nat) ∧ Turned (fun k => k = A ∨ k = R) W7 wr ∧ EndMap wr A E i ∧ MaskMap wr R (bitTo E i)) (fun i' _ => E.length - (intOf i').toNat)
   case atStart => exact ⟨0, by omega, rfl, Turned.refl _ _, HN7.out.em, by rw [bitTo_zero]; exact HN7.out.mm⟩
   case round =>
    obtain ⟨i, hi, rfl, ht, hem, hmm⟩ := hrel
    have HT := Lib.hid ht
    have HEM := Lib.hid hem
    have HMM := Lib.hid hmm
    have HN8 := Lib.hid (HN7.out.maps ht hem hmm)
    clear ht hem hmm
    by_cases hil : i < E.length
    ·obtain rfl : ae = some ⟨be, oe, none⟩ := by rcases HAE.out with h | h; exact h; omega
     have hbe : w.heap.size + 5 ≤ be := HOB.out be rfl
     have c1 := (HT.out.cell (p := ⟨be, oe + i, none⟩) (HEC.out i hil).1 (by have := HNM.out; rintro (e | e); (have e2 : be = A := e); omega; (have e2 : be = R := e); omega)).trans (HEC.out i hil).2
     have HE1 := Lib.hid (nth_64 HEZ.out i)
     have HBS := Lib.hid (bitTo_step HNO.out hil)
     have HES := Lib.hid (fun W' lA h => EndMap.step (w' := W') (A := A) (l := lA) HNO.out hil h)
     obtain ⟨e, he⟩ : ∃ x, nth E i = x := ⟨_, rfl⟩
     rw [he] at c1 HE1 HBS HES
     clear he
     go_upto_region 13 with fail
     obtain ⟨lA, hlA, hlA2⟩ := HEM.out
     obtain ⟨lR, hlR, hlR2⟩ := HMM.out
     have HLA2 := Lib.hid hlA2
     have HLR2 := Lib.hid hlR2
     have HLA := Lib.hid hlA
     have HLR := Lib.hid hlR
     have HKR : Hid (q < wr.heap.size ∧ p < wr.heap.size) := Lib.hid (by have := HN8.out.size; have := HNM.out; omega)
     have n2 : A ≠ R ∧ p ≠ A ∧ p ≠ R ∧ q ≠ A ∧ q ≠ R := by have := HNM.out; omega
     clear hlA hlR hlA2 hlR2 c1
     obtain ⟨V, hV⟩ : ∃ V : List (Option Value), V = [some (.pointer (some ⟨q, 0, none⟩)), some (.pointer (some ⟨q, 0, none⟩)), some (.pointer (some ⟨q, 2, none⟩)), some (.map (some A)), some (.int .i64 e), some (.pointer (some ⟨q, 0, none⟩)), some (.pointer (some ⟨q, 0, none⟩)), some (.pointer (some ⟨q, 3, none⟩)), some (.map (some R)), some (.int .i64 e), some (.int .i64 (i : Nat)), some (.int .i64 (i : Nat)), some (.int .u64 (pwI i)), none, none, none, none, none, none] := ⟨_, rfl⟩
     have HVV := Lib.hid hV
     clear hV
     refine wp_region_V [some 60, some 61, some 62, some 63, some 64, some 65, some 66, some 67, some 68, some 69, some 70, some 71, some 72, some 73, some 74, none, some 75, some 76, none] (fun L w' xs => ValsAt V L xs ∧ (EntR Tryz.prog 57 60 A R lA lR e (.int .i64 (i : Nat)) (.int .u64 (pwI i)) wr (L 13) (L 14) (L 15) (L 16) (L 17) (L 18) (xs 13) (xs 14) (xs 16) (xs 17) w' ∧ ((L 14 = true → L 13 = true) ∧ (L 15 = true → L 14 = true) ∧ (L 17 = true → L 16 = true) ∧ (L 18 = true → L 17 = true)))) (by kernel_rfl) (by kernel_rfl) (by rfl) (by rfl) (by rfl) ?_ ?_ ?_
     focus
      exact fun xs => ⟨ValsAt.none _ _, (by exact EntR.start n2.1 HLA.out HLR.out 1), ⟨(fun e => by cases e), (fun e => by cases e), (fun e => by cases e), (fun e => by cases e)⟩⟩
     focus
      refine ⟨?_, ?_, ?_, ?_, ?_, ?_, ?_, ?_, ?_, ?_, ?_, ?_, ?_, ?_, ?_, ?_, ?_, ?_, ?_, trivial⟩
      all_goals
       intro L a' w' xs hi hd hf hJ K hK
       obtain ⟨hv, hA, h9⟩ := hJ
       have HF := Lib.hid hf
       have HVA := Lib.hid hv
       have HLI := Lib.hid hi
       clear hf hv hi
      focus
       clear hd
       obtain ⟨ρ, hρ⟩ : ∃ ρ, a'.eval = ρ := ⟨_, rfl⟩
       have hcst := cstE hρ
       have l3 : ρ (.tmp 3) = .pointer (some ⟨p, 0, none⟩) := (congrFun hρ (.tmp 3)).symm.trans (HF.out.lo 3 rfl)
       have m0 := (hA.cell (k := p) (i := 0) HKR.out.2 n2.2.1 n2.2.2.1).trans HN8.out.ptr.cell
       rw [if_pos (by simp [Region.wanted])]
       unfold Oper.wp
       rw [hρ]
       clear hρ
       go_simp
       exact hK.out _ _ ⟨HVA.out.set (i := 0) (by rw [HVV.out]; rfl), (by simp only [une xs 13 0 rfl, une xs 14 0 rfl, une xs 16 0 rfl, une xs 17 0 rfl]; exact hA), (by exact h9)⟩
      focus
       obtain ⟨d0, _⟩ := hd
       obtain ⟨ρ, hρ⟩ : ∃ ρ, a'.eval = ρ := ⟨_, rfl⟩
       have hcst := cstE hρ
       have v0 : ρ (.tmp 60) = .pointer (some ⟨q, 0, none⟩) := (congrFun hρ (.tmp 60)).symm.trans ((HF.out.ev 0 rfl d0).trans (HVA.out 0 _ (by rw [HVV.out]; rfl) d0))
       rw [if_pos (by simp [Region.wanted])]
       unfold Oper.wp
       rw [hρ]
       clear hρ
       go_simp
       exact hK.out _ _ ⟨HVA.out.set (i := 1) (by rw [HVV.out]; rfl), (by simp only [une xs 13 1 rfl, une xs 14 1 rfl, une xs 16 1 rfl, une xs 17 1 rfl]; exact hA), (by exact h9)⟩
      focus
       obtain ⟨d1, _⟩ := hd
       obtain ⟨ρ, hρ⟩ : ∃ ρ, a'.eval = ρ := ⟨_, rfl⟩
       have hcst := cstE hρ
       have v1 : ρ (.tmp 61) = .pointer (some ⟨q, 0, none⟩) := (congrFun hρ (.tmp 61)).symm.trans ((HF.out.ev 1 rfl d1).trans (HVA.out 1 _ (by rw [HVV.out]; rfl) d1))
       rw [if_pos (by simp [Region.wanted])]
       unfold Oper.wp
       rw [hρ]
       clear hρ
       go_simp
       exact hK.out _ _ ⟨HVA.out.set (i := 2) (by rw [HVV.out]; rfl), (by simp only [une xs 13 2 rfl, une xs 14 2 rfl, une xs 16 2 rfl, une xs 17 2 rfl]; exact hA), (by exact h9)⟩
      focus
       obtain ⟨d2, _⟩ := hd
       obtain ⟨ρ, hρ⟩ : ∃ ρ, a'.eval = ρ := ⟨_, rfl⟩
       have hcst := cstE hρ
       have v2 : ρ (.tmp 62) = .pointer (some ⟨q, 2, none⟩) := (congrFun hρ (.tmp 62)).symm.trans ((HF.out.ev 2 rfl d2).trans (HVA.out 2 _ (by rw [HVV.out]; rfl) d2))
       have m0 := (hA.cell (k := q) (i := 2) HKR.out.1 n2.2.2.2.1 n2.2.2.2.2).trans (HN8.out.cs.cell 2)
       simp at m0
       rw [if_pos (by simp [Region.wanted])]
       unfold Oper.wp
       rw [hρ]
       clear hρ
       go_simp
       exact hK.out _ _ ⟨HVA.out.set (i := 3) (by rw [HVV.out]; rfl), (by simp only [une xs 13 3 rfl, une xs 14 3 rfl, une xs 16 3 rfl, une xs 17 3 rfl]; exact hA), (by exact h9)⟩
      focus
       clear hd
       obtain ⟨ρ, hρ⟩ : ∃ ρ, a'.eval = ρ := ⟨_, rfl⟩
       have hcst := cstE hρ
       have l10 : ρ (.tmp 10) = .int .i64 e := (congrFun hρ (.tmp 10)).symm.trans (HF.out.lo 10 rfl)
       rw [if_pos (by simp [Region.wanted])]
       unfold Oper.wp
       rw [hρ]
       clear hρ
       go_simp
       exact hK.out _ _ ⟨HVA.out.set (i := 4) (by rw [HVV.out]; rfl), (by simp only [une xs 13 4 rfl, une xs 14 4 rfl, une xs 16 4 rfl, une xs 17 4 rfl]; exact hA), (by exact h9)⟩
      focus
       clear hd
       obtain ⟨ρ, hρ⟩ : ∃ ρ, a'.eval = ρ := ⟨_, rfl⟩
       have hcst := cstE hρ
       have l3 : ρ (.tmp 3) = .pointer (some ⟨p, 0, none⟩) := (congrFun hρ (.tmp 3)).symm.trans (HF.out.lo 3 rfl)
       have m0 := (hA.cell (k := p) (i := 0) HKR.out.2 n2.2.1 n2.2.2.1).trans HN8.out.ptr.cell
       rw [if_pos (by simp [Region.wanted])]
       unfold Oper.wp
       rw [hρ]
       clear hρ
       go_simp
       exact hK.out _ _ ⟨HVA.out.set (i := 5) (by rw [HVV.out]; rfl), (by simp only [une xs 13 5 rfl, une xs 14 5 rfl, une xs 16 5 rfl, une xs 17 5 rfl]; exact hA), (by exact h9)⟩
      focus
       obtain ⟨d5, _⟩ := hd
       obtain ⟨ρ, hρ⟩ : ∃ ρ, a'.eval = ρ := ⟨_, rfl⟩
       have hcst := cstE hρ
       have v5 : ρ (.tmp 65) = .pointer (some ⟨q, 0, none⟩) := (congrFun hρ (.tmp 65)).symm.trans ((HF.out.ev 5 rfl d5).trans (HVA.out 5 _ (by rw [HVV.out]; rfl) d5))
       rw [if_pos (by simp [Region.wanted])]
       unfold Oper.wp
       rw [hρ]
       clear hρ
       go_simp
       exact hK.out _ _ ⟨HVA.out.set (i := 6) (by rw [HVV.out]; rfl), (by simp only [une xs 13 6 rfl, une xs 14 6 rfl, une xs 16 6 rfl, une xs 17 6 rfl]; exact hA), (by exact h9)⟩
      focus
       obtain ⟨d6, _⟩ := hd
       obtain ⟨ρ, hρ⟩ : ∃ ρ, a'.eval = ρ := ⟨_, rfl⟩
       have hcst := cstE hρ
       have v6 : ρ (.tmp 66) = .pointer (some ⟨q, 0, none⟩) := (congrFun hρ (.tmp 66)).symm.trans ((HF.out.ev 6 rfl d6).trans (HVA.out 6 _ (by rw [HVV.out]; rfl) d6))
       rw [if_pos (by simp [Region.wanted])]
       unfold Oper.wp
       rw [hρ]
       clear hρ
       go_simp
       exact hK.out _ _ ⟨HVA.out.set (i := 7) (by rw [HVV.out]; rfl), (by simp only [une xs 13 7 rfl, une xs 14 7 rfl, une xs 16 7 rfl, une xs 17 7 rfl]; exact hA), (by exact h9)⟩
      focus
       obtain ⟨d7, _⟩ := hd
       obtain ⟨ρ, hρ⟩ : ∃ ρ, a'.eval = ρ := ⟨_, rfl⟩
       have hcst := cstE hρ
       have v7 : ρ (.tmp 67) = .pointer (some ⟨q, 3, none⟩) := (congrFun hρ (.tmp 67)).symm.trans ((HF.out.ev 7 rfl d7).trans (HVA.out 7 _ (by rw [HVV.out]; rfl) d7))
       have m0 := (hA.cell (k := q) (i := 3) HKR.out.1 n2.2.2.2.1 n2.2.2.2.2).trans (HN8.out.cs.cell 3)
       simp at m0
       rw [if_pos (by simp [Region.wanted])]
       unfold Oper.wp
       rw [hρ]
       clear hρ
       go_simp
       exact hK.out _ _ ⟨HVA.out.set (i := 8) (by rw [HVV.out]; rfl), (by simp only [une xs 13 8 rfl, une xs 14 8 rfl, une xs 16 8 rfl, une xs 17 8 rfl]; exact hA), (by exact h9)⟩
      focus
       clear hd
       obtain ⟨ρ, hρ⟩ : ∃ ρ, a'.eval = ρ := ⟨_, rfl⟩
       have hcst := cstE hρ
       have l10 : ρ (.tmp 10) = .int .i64 e := (congrFun hρ (.tmp 10)).symm.trans (HF.out.lo 10 rfl)
       rw [if_pos (by simp [Region.wanted])]
       unfold Oper.wp
       rw [hρ]
       clear hρ
       go_simp
       exact hK.out _ _ ⟨HVA.out.set (i := 9) (by rw [HVV.out]; rfl), (by simp only [une xs 13 9 rfl, une xs 14 9 rfl, une xs 16 9 rfl, une xs 17 9 rfl]; exact hA), (by exact h9)⟩
      focus
       clear hd
       obtain ⟨ρ, hρ⟩ : ∃ ρ, a'.eval = ρ := ⟨_, rfl⟩
       have hcst := cstE hρ
       have l9 : ρ (.tmp 9) = .int .i64 (i : Nat) := (congrFun hρ (.tmp 9)).symm.trans (HF.out.lo 9 rfl)
       rw [if_pos (by simp [Region.wanted])]
       unfold Oper.wp
       rw [hρ]
       clear hρ
       go_simp
       exact hK.out _ _ ⟨HVA.out.set (i := 10) (by rw [HVV.out]; rfl), (by simp only [une xs 13 10 rfl, une xs 14 10 rfl, une xs 16 10 rfl, une xs 17 10 rfl]; exact hA), (by exact h9)⟩
      focus
       clear hd
       obtain ⟨ρ, hρ⟩ : ∃ ρ, a'.eval = ρ := ⟨_, rfl⟩
       have hcst := cstE hρ
       have l9 : ρ (.tmp 9) = .int .i64 (i : Nat) := (congrFun hρ (.tmp 9)).symm.trans (HF.out.lo 9 rfl)
       rw [if_pos (by simp [Region.wanted])]
       unfold Oper.wp
       rw [hρ]
       clear hρ
       go_simp
       exact hK.out _ _ ⟨HVA.out.set (i := 11) (by rw [HVV.out]; rfl), (by simp only [une xs 13 11 rfl, une xs 14 11 rfl, une xs 16 11 rfl, une xs 17 11 rfl]; exact hA), (by exact h9)⟩
      focus
       obtain ⟨d11, _⟩ := hd
       obtain ⟨ρ, hρ⟩ : ∃ ρ, a'.eval = ρ := ⟨_, rfl⟩
       have hcst := cstE hρ
       have v11 : ρ (.tmp 71) = .int .i64 (i : Nat) := (congrFun hρ (.tmp 71)).symm.trans ((HF.out.ev 11 rfl d11).trans (HVA.out 11 _ (by rw [HVV.out]; rfl) d11))
       rw [if_pos (by simp [Region.wanted])]
       unfold Oper.wp
       rw [hρ]
       clear hρ
       have hsh := Lib.hid (shl_mask i (by omega))
       go_simp
       rw [hsh.out]
       exact hK.out _ _ ⟨HVA.out.set (i := 12) (by rw [HVV.out]; rfl), (by simp only [une xs 13 12 rfl, une xs 14 12 rfl, une xs 16 12 rfl, une xs 17 12 rfl]; exact hA), (by exact h9)⟩
      focus
       obtain ⟨d3, d4, d8, _⟩ := hd
       have v3 : a'.eval (.tmp 63) = .map (some A) := (HF.out.ev 3 rfl d3).trans (HVA.out 3 _ (by rw [HVV.out]; rfl) d3)
       have v4 : a'.eval (.tmp 64) = .int .i64 e := (HF.out.ev 4 rfl d4).trans (HVA.out 4 _ (by rw [HVV.out]; rfl) d4)
       rw [if_pos (by simp [Region.wanted])]
       have e14 : L 14 = false := by
        cases e : L 14 with
        | false => rfl
        | true => have := h9.1 e; rw [HLI.out] at this; cases this
       obtain ⟨v0, st, w5, y1, y2, y3, y4⟩ := run_entry_ints (P := Tryz.prog) Tryz.underlying57 Tryz.underlying3 (Tryz.zeroValue3) (hA.a0 HLI.out) e
       refine wp_of_entry rfl v3 v4 y1 ?_
       exact hK.out _ _ ⟨HVA.out.free (i := 13) (by rw [HVV.out]; rfl) _, (by simp only [une xs 14 13 rfl, une xs 16 13 rfl, une xs 17 13 rfl, updV_self]; exact hA.s13 HLI.out e14 y2 y4), (by exact ⟨fun _ => rfl, h9.2⟩)⟩
      focus
       obtain ⟨d13, _⟩ := hd
       obtain ⟨ρ, hρ⟩ : ∃ ρ, a'.eval = ρ := ⟨_, rfl⟩
       have hcst := cstE hρ
       have v13 : ρ (.tmp 73) = xs 13 := (congrFun hρ (.tmp 73)).symm.trans (HF.out.ev 13 rfl d13)
       rw [if_pos (by simp [Region.wanted])]
       unfold Oper.wp
       rw [hρ]
       clear hρ
       obtain ⟨v0, st, hx, hAA⟩ := hA.s14 d13 (by
        cases e : L 15 with
        | false => rfl
        | true => have := h9.2.1 e; rw [HLI.out] at this; cases this)
       rw [hx] at v13
       have HAA := Lib.hid hAA
       clear hAA
       go_simp
       exact hK.out _ _ ⟨HVA.out.free (i := 14) (by rw [HVV.out]; rfl) _, (by simp only [une xs 13 14 rfl, une xs 16 14 rfl, une xs 17 14 rfl, updV_self]; exact HAA.out), (by exact ⟨fun _ => d13, fun _ => rfl, h9.2.2⟩)⟩
      focus
       obtain ⟨d3, d14, d10, d13, d0, d1, d2, _, d4, d8, _, _, _⟩ := hd
       have v3 : a'.eval (.tmp 63) = .map (some A) := (HF.out.ev 3 rfl d3).trans (HVA.out 3 _ (by rw [HVV.out]; rfl) d3)
       have v14 : a'.eval (.tmp 74) = xs 14 := HF.out.ev 14 rfl d14
       have v10 : a'.eval (.tmp 70) = .int .i64 (i : Nat) := (HF.out.ev 10 rfl d10).trans (HVA.out 10 _ (by rw [HVV.out]; rfl) d10)
       rw [if_pos (by simp [Region.wanted])]
       obtain ⟨w5, y1, hAA⟩ := hA.s15 (h9.1 d14) d14 HLI.out
       refine wp_of_entryStore rfl v3 v14 v10 y1 ?_
       exact hK.out undef _ ⟨HVA.out.free (i := 15) (by rw [HVV.out]; rfl) _, (by simp only [une xs 13 15 rfl, une xs 14 15 rfl, une xs 16 15 rfl, une xs 17 15 rfl]; exact hAA), (by exact ⟨h9.1, fun _ => d14, h9.2.2⟩)⟩
      focus
       obtain ⟨d8, d9, d15, d0, d1, d2, d3, d4, _, d10, d13, d14, _, _⟩ := hd
       have v8 : a'.eval (.tmp 68) = .map (some R) := (HF.out.ev 8 rfl d8).trans (HVA.out 8 _ (by rw [HVV.out]; rfl) d8)
       have v9 : a'.eval (.tmp 69) = .int .i64 e := (HF.out.ev 9 rfl d9).trans (HVA.out 9 _ (by rw [HVV.out]; rfl) d9)
       rw [if_pos (by simp [Region.wanted])]
       have e17 : L 17 = false := by
        cases e : L 17 with
        | false => rfl
        | true => have := h9.2.2.1 e; rw [HLI.out] at this; cases this
       obtain ⟨v0, st, w5, y1, y2, y3, y4⟩ := run_entry_ints (P := Tryz.prog) Tryz.underlying60 Tryz.underlying3 (Tryz.zeroValue87) (hA.r0 HLI.out) e
       refine wp_of_entry rfl v8 v9 y1 ?_
       exact hK.out _ _ ⟨HVA.out.free (i := 16) (by rw [HVV.out]; rfl) _, (by simp only [une xs 13 16 rfl, une xs 14 16 rfl, une xs 17 16 rfl, updV_self]; exact hA.s16 HLI.out e17 y2 y4), (by exact ⟨h9.1, h9.2.1, fun _ => rfl, h9.2.2.2⟩)⟩
      focus
       obtain ⟨d16, _⟩ := hd
       obtain ⟨ρ, hρ⟩ : ∃ ρ, a'.eval = ρ := ⟨_, rfl⟩
       have hcst := cstE hρ
       have v16 : ρ (.tmp 75) = xs 16 := (congrFun hρ (.tmp 75)).symm.trans (HF.out.ev 16 rfl d16)
       rw [if_pos (by simp [Region.wanted])]
       unfold Oper.wp
       rw [hρ]
       clear hρ
       obtain ⟨v0, st, hx, hAA⟩ := hA.s17 d16 (by
        cases e : L 18 with
        | false => rfl
        | true => have := h9.2.2.2 e; rw [HLI.out] at this; cases this)
       rw [hx] at v16
       have HAA := Lib.hid hAA
       clear hAA
       go_simp
       exact hK.out _ _ ⟨HVA.out.free (i := 17) (by rw [HVV.out]; rfl) _, (by simp only [une xs 13 17 rfl, une xs 14 17 rfl, une xs 16 17 rfl, updV_self]; exact HAA.out), (by exact ⟨h9.1, h9.2.1, fun _ => d16, fun _ => rfl⟩)⟩
      focus
       obtain ⟨d8, d17, d12, d16, d0, d1, d2, d3, d4, d5, d6, d7, _, d9, d10, d11, _, d13, d14, d15, _, _⟩ := hd
       have v8 : a'.eval (.tmp 68) = .map (some R) := (HF.out.ev 8 rfl d8).trans (HVA.out 8 _ (by rw [HVV.out]; rfl) d8)
       have v17 : a'.eval (.tmp 76) = xs 17 := HF.out.ev 17 rfl d17
       have v12 : a'.eval (.tmp 72) = .int .u64 (pwI i) := (HF.out.ev 12 rfl d12).trans (HVA.out 12 _ (by rw [HVV.out]; rfl) d12)
       rw [if_pos (by simp [Region.wanted])]
       obtain ⟨w5, y1, hAA⟩ := hA.s18 (h9.2.2.1 d17) d17 HLI.out
       refine wp_of_entryStore rfl v8 v17 v12 y1 ?_
       exact hK.out undef _ ⟨HVA.out.free (i := 18) (by rw [HVV.out]; rfl) _, (by simp only [une xs 13 18 rfl, une xs 14 18 rfl, une xs 16 18 rfl, une xs 17 18 rfl]; exact hAA), (by exact ⟨h9.1, h9.2.1, h9.2.2.1, fun _ => d17⟩)⟩
     focus
      intro L w' xs hL hJ
      obtain ⟨hv, hA, h9⟩ := hJ
      have e0 : xs 0 = .pointer (some ⟨q, 0, none⟩) := hv 0 _ (by rw [HVV.out]; rfl) (hL 0 (by decide))
      have e1 : xs 1 = .pointer (some ⟨q, 0, none⟩) := hv 1 _ (by rw [HVV.out]; rfl) (hL 1 (by decide))
      have e2 : xs 2 = .pointer (some ⟨q, 2, none⟩) := hv 2 _ (by rw [HVV.out]; rfl) (hL 2 (by decide))
      have e3 : xs 3 = .map (some A) := hv 3 _ (by rw [HVV.out]; rfl) (hL 3 (by decide))
      have e4 : xs 4 = .int .i64 e := hv 4 _ (by rw [HVV.out]; rfl) (hL 4 (by decide))
      have e5 : xs 5 = .pointer (some ⟨q, 0, none⟩) := hv 5 _ (by rw [HVV.out]; rfl) (hL 5 (by decide))
      have e6 : xs 6 = .pointer (some ⟨q, 0, none⟩) := hv 6 _ (by rw [HVV.out]; rfl) (hL 6 (by decide))
      have e7 : xs 7 = .pointer (some ⟨q, 3, none⟩) := hv 7 _ (by rw [HVV.out]; rfl) (hL 7 (by decide))
      have e8 : xs 8 = .map (some R) := hv 8 _ (by rw [HVV.out]; rfl) (hL 8 (by decide))
      have e9 : xs 9 = .int .i64 e := hv 9 _ (by rw [HVV.out]; rfl) (hL 9 (by decide))
      have e10 : xs 10 = .int .i64 (i : Nat) := hv 10 _ (by rw [HVV.out]; rfl) (hL 10 (by decide))
      have e11 : xs 11 = .int .i64 (i : Nat) := hv 11 _ (by rw [HVV.out]; rfl) (hL 11 (by decide))
      have e12 : xs 12 = .int .u64 (pwI i) := hv 12 _ (by rw [HVV.out]; rfl) (hL 12 (by decide))
      simp only [putGo, Act.put, List.setIfInBounds_toArray, List.set_cons_zero, List.set_cons_succ, e0, e1, e2, e3, e4, e5, e6, e7, e8, e9, e10, e11, e12]
      clear hv e0 e1 e2 e3 e4 e5 e6 e7 e8 e9 e10 e11 e12
     have hX15 := hL 15 (by decide)
     have hX18 := hL 18 (by decide)
     have HAP := Lib.hid hA
     clear h9 hA hL
     go_wp2
     go_roundw
     case rel => exact ⟨i + 1, by omega, by go_num, HT.out.trans HAP.out.tu, HES.out _ _ (HAP.out.a2 hX15) HLA2.out, by rw [← HBS.out]; exact MaskMap.put (HAP.out.r2 hX18) HLR2.out⟩
     case measure => simp [intOf]; omega
    ·obtain rfl : i = E.length := by omega
     have hx8 := HN8.out.box.2
     go_wp2_with fail
     refine (back_any _ _ _ _).mono ?_
     rintro e W9 ⟨rfl, hW9⟩
     have HBX9 : Hid (Box W9 wr.heap.size #[.slice a f.lots.length cap]) := Lib.hid (by rw [hW9]; exact Box.new wr _ _)
     have HN9 : Hid (NewL w.heap.size A R q p w W9 #[.int .i64 f.senders, .slice a f.lots.length cap] (.slice a f.lots.length cap) (.slice av nv cv) (firstF f f.lots.length) E E.length (bitTo E E.length)) := Lib.hid (by rw [hW9]; exact HN8.out.ext (box_below' wr _))
     have HSZ9 := Lib.hid HN8.out.size
     obtain ⟨bf, hbf⟩ : ∃ x, wr.heap.size = x := ⟨_, rfl⟩
     rw [hbf] at HBX9 HSZ9 ⊢
     clear hW9 hbf hx8 HN8 HT HEM HMM
     go_wp2_with fail
     refine (wpIn_wide (n := 11)).1 ?_
     have HOV : Hid (∀ k, k < w.heap.size + 5 ∨ (Value.slice av nv cv).ownBlock = some k → k < W9.heap.size) := Lib.hid (fun k hk => by
      rcases hk with hk | hk
      ·have := HN9.out.size; omega
      ·exact (HN9.out.own.ltX k hk).2)
     have HRA : Hid (A < R ∧ R < w.heap.size + 5 ∧ R ≠ A ∧ R ≠ q ∧ R ≠ p ∧ R ≠ w.heap.size ∧ w.heap.size ≤ R) := Lib.hid (by have := HNM.out; omega)
     refine range_law (w := W9) rfl (enters_of Tryz.func70 (by kernel_rfl) rfl) (back_iter B bf W9 a cap f.lots (HF.out.below HN9.out.hb hB).2.2 (by have := HN9.out.size; omega) HBX9.out hl2) (Turned.refl _ _)
      (fun k hk => by rcases hk with hk | rfl; have := HN9.out.size; omega; exact HBX9.out.1) (fun k => k = R) (fun k hk => ⟨by rw [hk]; exact HN9.out.mm.lt, by rw [hk]; have := HRA.out; have := HSZ9.out; rintro (h | h) <;> omega⟩)
      (fun i W args h => by obtain ⟨vi, vk, vp, h, _⟩ := h; rw [h]; rfl) (fun i A B args h _ => h)
      (fun st i W => ∃ M, NewL w.heap.size A R q p w W #[.int .i64 f.senders, .slice a f.lots.length cap] (.slice a f.lots.length cap) (.slice av nv cv) (firstF f f.lots.length) E E.length M ∧ MaskOk E (rAt f (f.lots.length - i)) M ∧ Below B W9 W) (fun _ _ _ _ => False) ?hI (fun _ _ _ _ _ _ h _ => h) ?h0 ?hround ?hdone (fun _ _ _ _ _ _ _ _ _ h _ => h.elim)
     case hI =>
      rintro s i A' B' hs ⟨M, h1, h2, h3⟩ ht
      exact ⟨M, h1.turned ht (fun k hk h => by have := HOV.out k hk; omega), h2, h3.trans (ht.below (by have := h1.size; omega) (fun k hk h => by have := HN9.out.size; omega))⟩
     case h0 =>
      intro s W1 hs hs1 hb
      refine ⟨_, HN9.out.ext hb, ?_, hb.mono (by have := HN9.out.size; omega)⟩
      have h := bitTo_ok HNO.out hE64
      have e : (fun s e => s == e) = rAt f (f.lots.length - 0) := by funext s e; exact (rAt_last f s e).symm
      rw [e] at h
      exact h
     case hround =>
      rintro l st i W args hs hsW hi ⟨M, hn, hm, hbW⟩ ⟨vi, vk, vp, rfl, hlot⟩
      obtain ⟨k, hk⟩ : ∃ k, f.lots.length - 1 - i = k := ⟨_, rfl⟩
      have hkl : k < f.lots.length := by omega
      have hki : f.lots.length - i = k + 1 := by omega
      have HKI : Hid (f.lots.length - (i + 1) = k) := Lib.hid (by omega)
      rw [hk] at hlot ⊢
      rw [hki] at hm
      have HM := Lib.hid hm
      have HMS := Lib.hid (fun s => (hm s).1)
      obtain ⟨hli, rfl, hlp⟩ := hlot
      obtain ⟨ai, ci, rfl⟩ := hli.form
      obtain ⟨ap, cp, rfl⟩ := hlp.form
      have HLI := Lib.hid hli
      have HLP := Lib.hid hlp
      obtain ⟨bF, oF, hav, hnv, _⟩ := HN9.out.own.at (k := k) (by rw [firstF_len]; exact hkl)
      rw [firstF_len] at hnv
      subst hav hnv
      have HCF : Hid (∀ W' M', NewL w.heap.size A R q p w W' #[.int .i64 f.senders, .slice a f.lots.length cap] (.slice a f.lots.length cap) (.slice (some ⟨bF, oF, none⟩) f.lots.length cv) (firstF f f.lots.length) E E.length M' → W'.cell? ⟨bF, oF + k, none⟩ = some (.int .i64 (beforeI f k))) := Lib.hid (fun W' M' h => by
       obtain ⟨b', o', e, _, hc⟩ := h.own.at (k := k) (by rw [firstF_len]; exact hkl)
       cases e
       rw [firstF_at f hkl] at hc
       exact hc)
      have HBS : Hid (beforeI f (k + 1) = beforeI f k + (lotAt f.lots k).ins.length) := Lib.hid rfl
      have hN1 := before_bd H0.out (k := k) (by omega)
      have hN2 := before_bd H0.out (k := k + 1) (by omega)
      have HLK := Lib.hid (lotB_parts (lotsB_lot HK.out.2.2.2.2 hkl))
      have HMO : Hid (∀ j p', 0 ≤ p' → lotM f M k j (beforeI f k + p') = M (beforeI f k + p')) := Lib.hid (fun j p' hp => lotM_out HK.out.2.2.2.2 hkl hp)
      rw [HBS.out] at hN2
      obtain ⟨hN1, hN1'⟩ := hN1
      obtain ⟨hN2, hN2'⟩ := hN2
      clear hk hki hm hli hlp
      gi_wp2
      refine ⟨box_below' _ _, fun W2 ht => ?_⟩
      have HN2 : Hid (NewL w.heap.size A R q p w W2 #[.int .i64 f.senders, .slice a f.lots.length cap] (.slice a f.lots.length cap) (.slice (some ⟨bF, oF, none⟩) f.lots.length cv) (firstF f f.lots.length) E E.length M) := Lib.hid ((hn.ext (box_below' W _)).turned ht (fun k hk h => by have := HOV.out k hk; omega))
      have HX2 : Hid (Box W2 W.heap.size #[.slice ai (lotAt f.lots k).ins.length ci, .bool (lotAt f.lots k).known, .slice ap (lotAt f.lots k).perm.length cp]) := Lib.hid ((Box.new W _ _).turned ht (fun h => by omega))
      have HWS : Hid (st ≤ W.heap.size ∧ W9.heap.size + 2 ≤ st ∧ W.heap.size < W2.heap.size) := Lib.hid ⟨hsW, hs, HX2.out.1⟩
      obtain ⟨zW, hzW⟩ : ∃ z, W.heap.size = z := ⟨_, rfl⟩
      rw [hzW] at HX2 HWS ⊢
      have HB9 : Hid (Below B W9 W2) := Lib.hid ((hbW.alloc (by have := hn.size; omega) _).trans (ht.below (by have := hn.size; simp; omega) (fun k hk h => by have := HN9.out.size; omega)))
      clear hn ht hzW hs hsW hbW
      have x2 := HX2.out.2
      gi_wp2
      obtain ⟨m, hm⟩ : ∃ x, (lotAt f.lots k).ins.length = x := ⟨_, rfl⟩
      have HMM := Lib.hid hm
      rw [hm] at hN2 hN2' HX2 HLI ⊢
      clear hm x2
      gi_loopw [13, 86] (fun v' i' wr => ∃ j : Nat, j ≤ m ∧ i' = .int .i64 (j : Nat) ∧ v' = .int .u64 ((orM M (beforeI f k) j : Nat) : Int) ∧ Below W2.heap.size W2 wr) (fun _ i' _ => m - (intOf i').toNat)
      case atStart => exact ⟨0, by omega, rfl, rfl, Below.refl _ _⟩
      case round =>
       obtain ⟨j, hj, rfl, rfl, hb3⟩ := hrel
       have HB3 := Lib.hid hb3
       have HN3 := Lib.hid (HN2.out.ext hb3)
       clear hb3
       by_cases hjl : j < m
       ·obtain ⟨xo, hxo⟩ : ∃ x : Int, ((orM M (beforeI f k) j : Nat) : Int) = x := ⟨_, rfl⟩
        obtain ⟨yo, hyo⟩ : ∃ x : Int, ((M (beforeI f k + (j : Nat)) : Nat) : Int) = x := ⟨_, rfl⟩
        have HOS : Hid (bits .or .u64 xo yo = ((orM M (beforeI f k) (j + 1) : Nat) : Int)) := Lib.hid (by rw [← hxo, ← hyo, or_maskv (orM_lt HMS.out _) (HMS.out _)]; rfl)
        have HYO := Lib.hid hyo
        rw [hxo]
        clear hxo hyo
        gi_wp2
        obtain ⟨V, hV⟩ : ∃ V : List (Option Value), V = [some (.int .u64 xo), some (.pointer (some ⟨q, 0, none⟩)), some (.pointer (some ⟨q, 0, none⟩)), some (.pointer (some ⟨q, 3, none⟩)), some (.map (some R)), some (.pointer (some ⟨q, 0, none⟩)), some (.pointer (some ⟨q, 0, none⟩)), some (.pointer (some ⟨q, 1, none⟩)), some (.slice (some ⟨bF, oF, none⟩) f.lots.length cv), some (.int .i64 (k : Nat)), some (.pointer (some ⟨bF, oF + k, none⟩)), some (.int .i64 (beforeI f k)), some (.int .i64 (j : Nat)), some (.int .i64 (beforeI f k + (j : Nat))), some (.int .u64 yo), some (.int .u64 (bits .or .u64 xo yo)), some (.int .u64 (bits .or .u64 xo yo))] := ⟨_, rfl⟩
        have HVV := Lib.hid hV
        clear hV
        refine wpIn_region_V [some 89, some 90, some 91, some 92, some 93, some 94, some 95, some 96, some 97, some 98, some 99, some 100, some 101, some 102, some 103, some 104, some 13] (fun L w' xs => ValsAt V L xs ∧ (Below wr.heap.size wr w' ∧ (L 16 = true → L 0 = true))) (by kernel_rfl) (by kernel_rfl) (by rfl) (by rfl) (by rfl) ?_ ?_ ?_
        focus
         exact fun xs => ⟨ValsAt.none _ _, below_drewN (Below.refl _ wr) 1, (fun e => by cases e)⟩
        focus
         refine ⟨?_, ?_, ?_, ?_, ?_, ?_, ?_, ?_, ?_, ?_, ?_, ?_, ?_, ?_, ?_, ?_, ?_, trivial⟩
         all_goals
          intro L a' w' xs hi hd hf hJ K hK
          obtain ⟨hv, hbw, h9⟩ := hJ
          have HF := Lib.hid hf
          have HVA := Lib.hid hv
          have HLI := Lib.hid hi
          clear hf hv hi
         focus
          clear hd
          obtain ⟨ρ, hρ⟩ : ∃ ρ, a'.eval = ρ := ⟨_, rfl⟩
          have hcst := cstE hρ
          have e16 : L 16 = false := by
           cases e : L 16 with
           | false => rfl
           | true => have := h9 e; rw [HLI.out] at this; cases this
          have l13 : ρ (.tmp 13) = .int .u64 xo := (congrFun hρ (.tmp 13)).symm.trans (HF.out.re 16 rfl e16)
          rw [if_pos (by simp [Region.wanted])]
          unfold Oper.wpIn
          refine ⟨fun _ _ => trivial, ?_⟩
          rw [Oper.semAt_plain _ _ _ (by intro c hc; cases hc)]
          rw [hρ]
          clear hρ
          go_simp
          exact hK.out _ _ ⟨HVA.out.set (i := 0) (by rw [HVV.out]; rfl), hbw, (fun _ => rfl)⟩
         focus
          clear hd
          obtain ⟨ρ, hρ⟩ : ∃ ρ, a'.eval = ρ := ⟨_, rfl⟩
          have hcst := cstE hρ
          have l3 : ρ (.tmp 3) = .pointer (some ⟨p, 0, none⟩) := (congrFun hρ (.tmp 3)).symm.trans (HF.out.lo 3 rfl)
          have m0 := (HN3.out.ext hbw).ptr.cell
          rw [if_pos (by simp [Region.wanted])]
          unfold Oper.wpIn
          refine ⟨fun _ _ => trivial, ?_⟩
          rw [Oper.semAt_plain _ _ _ (by intro c hc; cases hc)]
          rw [hρ]
          clear hρ
          go_simp
          exact hK.out _ _ ⟨HVA.out.set (i := 1) (by rw [HVV.out]; rfl), hbw, (by exact h9)⟩
         focus
          obtain ⟨d1, _⟩ := hd
          obtain ⟨ρ, hρ⟩ : ∃ ρ, a'.eval = ρ := ⟨_, rfl⟩
          have hcst := cstE hρ
          have v1 : ρ (.tmp 90) = .pointer (some ⟨q, 0, none⟩) := (congrFun hρ (.tmp 90)).symm.trans ((HF.out.ev 1 rfl d1).trans (HVA.out 1 _ (by rw [HVV.out]; rfl) d1))
          rw [if_pos (by simp [Region.wanted])]
          unfold Oper.wpIn
          refine ⟨fun _ _ => trivial, ?_⟩
          rw [Oper.semAt_plain _ _ _ (by intro c hc; cases hc)]
          rw [hρ]
          clear hρ
          go_simp
          exact hK.out _ _ ⟨HVA.out.set (i := 2) (by rw [HVV.out]; rfl), hbw, (by exact h9)⟩
         focus
          obtain ⟨d2, _⟩ := hd
          obtain ⟨ρ, hρ⟩ : ∃ ρ, a'.eval = ρ := ⟨_, rfl⟩
          have hcst := cstE hρ
          have v2 : ρ (.tmp 91) = .pointer (some ⟨q, 0, none⟩) := (congrFun hρ (.tmp 91)).symm.trans ((HF.out.ev 2 rfl d2).trans (HVA.out 2 _ (by rw [HVV.out]; rfl) d2))
          rw [if_pos (by simp [Region.wanted])]
          unfold Oper.wpIn
          refine ⟨fun _ _ => trivial, ?_⟩
          rw [Oper.semAt_plain _ _ _ (by intro c hc; cases hc)]
          rw [hρ]
          clear hρ
          go_simp
          exact hK.out _ _ ⟨HVA.out.set (i := 3) (by rw [HVV.out]; rfl), hbw, (by exact h9)⟩
         focus
          obtain ⟨d3, _⟩ := hd
          obtain ⟨ρ, hρ⟩ : ∃ ρ, a'.eval = ρ := ⟨_, rfl⟩
          have hcst := cstE hρ
          have v3 : ρ (.tmp 92) = .pointer (some ⟨q, 3, none⟩) := (congrFun hρ (.tmp 92)).symm.trans ((HF.out.ev 3 rfl d3).trans (HVA.out 3 _ (by rw [HVV.out]; rfl) d3))
          have m0 := (HN3.out.ext hbw).cs.cell 3
          simp at m0
          rw [if_pos (by simp [Region.wanted])]
          unfold Oper.wpIn
          refine ⟨fun _ _ => trivial, ?_⟩
          rw [Oper.semAt_plain _ _ _ (by intro c hc; cases hc)]
          rw [hρ]
          clear hρ
          go_simp
          exact hK.out _ _ ⟨HVA.out.set (i := 4) (by rw [HVV.out]; rfl), hbw, (by exact h9)⟩
         focus
          clear hd
          obtain ⟨ρ, hρ⟩ : ∃ ρ, a'.eval = ρ := ⟨_, rfl⟩
          have hcst := cstE hρ
          have l3 : ρ (.tmp 3) = .pointer (some ⟨p, 0, none⟩) := (congrFun hρ (.tmp 3)).symm.trans (HF.out.lo 3 rfl)
          have m0 := (HN3.out.ext hbw).ptr.cell
          rw [if_pos (by simp [Region.wanted])]
          unfold Oper.wpIn
          refine ⟨fun _ _ => trivial, ?_⟩
          rw [Oper.semAt_plain _ _ _ (by intro c hc; cases hc)]
          rw [hρ]
          clear hρ
          go_simp
          exact hK.out _ _ ⟨HVA.out.set (i := 5) (by rw [HVV.out]; rfl), hbw, (by exact h9)⟩
         focus
          obtain ⟨d5, _⟩ := hd
          obtain ⟨ρ, hρ⟩ : ∃ ρ, a'.eval = ρ := ⟨_, rfl⟩
          have hcst := cstE hρ
          have v5 : ρ (.tmp 94) = .pointer (some ⟨q, 0, none⟩) := (congrFun hρ (.tmp 94)).symm.trans ((HF.out.ev 5 rfl d5).trans (HVA.out 5 _ (by rw [HVV.out]; rfl) d5))
          rw [if_pos (by simp [Region.wanted])]
          unfold Oper.wpIn
          refine ⟨fun _ _ => trivial, ?_⟩
          rw [Oper.semAt_plain _ _ _ (by intro c hc; cases hc)]
          rw [hρ]
          clear hρ
          go_simp
          exact hK.out _ _ ⟨HVA.out.set (i := 6) (by rw [HVV.out]; rfl), hbw, (by exact h9)⟩
         focus
          obtain ⟨d6, _⟩ := hd
          obtain ⟨ρ, hρ⟩ : ∃ ρ, a'.eval = ρ := ⟨_, rfl⟩
          have hcst := cstE hρ
          have v6 : ρ (.tmp 95) = .pointer (some ⟨q, 0, none⟩) := (congrFun hρ (.tmp 95)).symm.trans ((HF.out.ev 6 rfl d6).trans (HVA.out 6 _ (by rw [HVV.out]; rfl) d6))
          rw [if_pos (by simp [Region.wanted])]
          unfold Oper.wpIn
          refine ⟨fun _ _ => trivial, ?_⟩
          rw [Oper.semAt_plain _ _ _ (by intro c hc; cases hc)]
          rw [hρ]
          clear hρ
          go_simp
          exact hK.out _ _ ⟨HVA.out.set (i := 7) (by rw [HVV.out]; rfl), hbw, (by exact h9)⟩
         focus
          obtain ⟨d7, _⟩ := hd
          obtain ⟨ρ, hρ⟩ : ∃ ρ, a'.eval = ρ := ⟨_, rfl⟩
          have hcst := cstE hρ
          have v7 : ρ (.tmp 96) = .pointer (some ⟨q, 1, none⟩) := (congrFun hρ (.tmp 96)).symm.trans ((HF.out.ev 7 rfl d7).trans (HVA.out 7 _ (by rw [HVV.out]; rfl) d7))
          have m0 := (HN3.out.ext hbw).cs.cell 1
          simp at m0
          rw [if_pos (by simp [Region.wanted])]
          unfold Oper.wpIn
          refine ⟨fun _ _ => trivial, ?_⟩
          rw [Oper.semAt_plain _ _ _ (by intro c hc; cases hc)]
          rw [hρ]
          clear hρ
          go_simp
          exact hK.out _ _ ⟨HVA.out.set (i := 8) (by rw [HVV.out]; rfl), hbw, (by exact h9)⟩
         focus
          clear hd
          obtain ⟨ρ, hρ⟩ : ∃ ρ, a'.eval = ρ := ⟨_, rfl⟩
          have hcst := cstE hρ
          have l11 : ρ (.tmp 11) = .int .i64 (k : Nat) := (congrFun hρ (.tmp 11)).symm.trans (HF.out.lo 11 rfl)
          rw [if_pos (by simp [Region.wanted])]
          unfold Oper.wpIn
          refine ⟨fun _ _ => trivial, ?_⟩
          rw [Oper.semAt_plain _ _ _ (by intro c hc; cases hc)]
          rw [hρ]
          clear hρ
          go_simp
          exact hK.out _ _ ⟨HVA.out.set (i := 9) (by rw [HVV.out]; rfl), hbw, (by exact h9)⟩
         focus
          obtain ⟨d8, d9, _⟩ := hd
          obtain ⟨ρ, hρ⟩ : ∃ ρ, a'.eval = ρ := ⟨_, rfl⟩
          have hcst := cstE hρ
          have v8 : ρ (.tmp 97) = .slice (some ⟨bF, oF, none⟩) f.lots.length cv := (congrFun hρ (.tmp 97)).symm.trans ((HF.out.ev 8 rfl d8).trans (HVA.out 8 _ (by rw [HVV.out]; rfl) d8))
          have v9 : ρ (.tmp 98) = .int .i64 (k : Nat) := (congrFun hρ (.tmp 98)).symm.trans ((HF.out.ev 9 rfl d9).trans (HVA.out 9 _ (by rw [HVV.out]; rfl) d9))
          rw [if_pos (by simp [Region.wanted])]
          unfold Oper.wpIn
          refine ⟨fun _ _ => trivial, ?_⟩
          rw [Oper.semAt_plain _ _ _ (by intro c hc; cases hc)]
          rw [hρ]
          clear hρ
          go_simp
          exact hK.out _ _ ⟨HVA.out.set (i := 10) (by rw [HVV.out]; rfl), hbw, (by exact h9)⟩
         focus
          obtain ⟨d10, _⟩ := hd
          obtain ⟨ρ, hρ⟩ : ∃ ρ, a'.eval = ρ := ⟨_, rfl⟩
          have hcst := cstE hρ
          have v10 : ρ (.tmp 99) = .pointer (some ⟨bF, oF + k, none⟩) := (congrFun hρ (.tmp 99)).symm.trans ((HF.out.ev 10 rfl d10).trans (HVA.out 10 _ (by rw [HVV.out]; rfl) d10))
          have m0 := HCF.out _ _ (HN3.out.ext hbw)
          rw [if_pos (by simp [Region.wanted])]
          unfold Oper.wpIn
          refine ⟨fun _ _ => trivial, ?_⟩
          rw [Oper.semAt_plain _ _ _ (by intro c hc; cases hc)]
          rw [hρ]
          clear hρ
          go_simp
          exact hK.out _ _ ⟨HVA.out.set (i := 11) (by rw [HVV.out]; rfl), hbw, (by exact h9)⟩
         focus
          clear hd
          obtain ⟨ρ, hρ⟩ : ∃ ρ, a'.eval = ρ := ⟨_, rfl⟩
          have hcst := cstE hρ
          have l14 : ρ (.tmp 14) = .int .i64 (j : Nat) := (congrFun hρ (.tmp 14)).symm.trans (HF.out.lo 14 rfl)
          rw [if_pos (by simp [Region.wanted])]
          unfold Oper.wpIn
          refine ⟨fun _ _ => trivial, ?_⟩
          rw [Oper.semAt_plain _ _ _ (by intro c hc; cases hc)]
          rw [hρ]
          clear hρ
          go_simp
          exact hK.out _ _ ⟨HVA.out.set (i := 12) (by rw [HVV.out]; rfl), hbw, (by exact h9)⟩
         focus
          obtain ⟨d11, d12, _⟩ := hd
          obtain ⟨ρ, hρ⟩ : ∃ ρ, a'.eval = ρ := ⟨_, rfl⟩
          have hcst := cstE hρ
          have v11 : ρ (.tmp 100) = .int .i64 (beforeI f k) := (congrFun hρ (.tmp 100)).symm.trans ((HF.out.ev 11 rfl d11).trans (HVA.out 11 _ (by rw [HVV.out]; rfl) d11))
          have v12 : ρ (.tmp 101) = .int .i64 (j : Nat) := (congrFun hρ (.tmp 101)).symm.trans ((HF.out.ev 12 rfl d12).trans (HVA.out 12 _ (by rw [HVV.out]; rfl) d12))
          have hwj : IntKind.i64.wrap (beforeI f k + (j : Nat)) = beforeI f k + (j : Nat) := IntWalk.i64_in _ (by omega)
          rw [if_pos (by simp [Region.wanted])]
          unfold Oper.wpIn
          refine ⟨fun _ _ => trivial, ?_⟩
          rw [Oper.semAt_plain _ _ _ (by intro c hc; cases hc)]
          rw [hρ]
          clear hρ
          go_simp
          exact hK.out _ _ ⟨HVA.out.set (i := 13) (by rw [HVV.out]; rfl), hbw, (by exact h9)⟩
         focus
          obtain ⟨d4, d13, _⟩ := hd
          have v4 : a'.eval (.tmp 93) = .map (some R) := (HF.out.ev 4 rfl d4).trans (HVA.out 4 _ (by rw [HVV.out]; rfl) d4)
          have v13 : a'.eval (.tmp 102) = .int .i64 (beforeI f k + (j : Nat)) := (HF.out.ev 13 rfl d13).trans (HVA.out 13 _ (by rw [HVV.out]; rfl) d13)
          rw [if_pos (by simp [Region.wanted])]
          obtain ⟨lR, hl1, hl2⟩ := (HN3.out.ext hbw).mm
          have hrun := run_lookup_ints (P := Tryz.prog) Tryz.underlying60 Tryz.underlying3 (Tryz.zeroValue87 w') hl1 (beforeI f k + (j : Nat)) false
          have hv : (if false = true then Value.tuple #[(alook lR (beforeI f k + (j : Nat))).getD (.int .u64 0), .bool (alook lR (beforeI f k + (j : Nat))).isSome] else (alook lR (beforeI f k + (j : Nat))).getD (.int .u64 0)) = .int .u64 yo := by rw [if_neg (by decide), hl2]; unfold maskV; rw [HYO.out]
          rw [hv] at hrun
          refine wpIn_of_lookup rfl v4 v13 hrun ?_
          exact hK.out _ _ ⟨HVA.out.set (i := 14) (by rw [HVV.out]; rfl), hbw, (by exact h9)⟩
         focus
          obtain ⟨d0, d14, _⟩ := hd
          obtain ⟨ρ, hρ⟩ : ∃ ρ, a'.eval = ρ := ⟨_, rfl⟩
          have hcst := cstE hρ
          have v0 : ρ (.tmp 89) = .int .u64 xo := (congrFun hρ (.tmp 89)).symm.trans ((HF.out.ev 0 rfl d0).trans (HVA.out 0 _ (by rw [HVV.out]; rfl) d0))
          have v14 : ρ (.tmp 103) = .int .u64 yo := (congrFun hρ (.tmp 103)).symm.trans ((HF.out.ev 14 rfl d14).trans (HVA.out 14 _ (by rw [HVV.out]; rfl) d14))
          rw [if_pos (by simp [Region.wanted])]
          unfold Oper.wpIn
          refine ⟨fun _ _ => trivial, ?_⟩
          rw [Oper.semAt_plain _ _ _ (by intro c hc; cases hc)]
          rw [hρ]
          clear hρ
          go_simp
          exact hK.out _ _ ⟨HVA.out.set (i := 15) (by rw [HVV.out]; rfl), hbw, (by exact h9)⟩
         focus
          obtain ⟨d15, d0, d1, d2, d3, d4, d5, d6, d7, d8, d9, d10, d11, d12, d13, d14, _, _⟩ := hd
          obtain ⟨ρ, hρ⟩ : ∃ ρ, a'.eval = ρ := ⟨_, rfl⟩
          have hcst := cstE hρ
          have v15 : ρ (.tmp 104) = .int .u64 (bits .or .u64 xo yo) := (congrFun hρ (.tmp 104)).symm.trans ((HF.out.ev 15 rfl d15).trans (HVA.out 15 _ (by rw [HVV.out]; rfl) d15))
          rw [if_pos (by simp [Region.wanted])]
          unfold Oper.wpIn
          refine ⟨fun _ _ => trivial, ?_⟩
          rw [Oper.semAt_plain _ _ _ (by intro c hc; cases hc)]
          rw [hρ]
          clear hρ
          go_simp
          exact hK.out _ _ ⟨HVA.out.set (i := 16) (by rw [HVV.out]; rfl), hbw, (fun _ => d0)⟩
        focus
         intro L w' xs hL hJ
         obtain ⟨hv, hbw, h9⟩ := hJ
         have e0 : xs 0 = .int .u64 xo := hv 0 _ (by rw [HVV.out]; rfl) (hL 0 (by decide))
         have e1 : xs 1 = .pointer (some ⟨q, 0, none⟩) := hv 1 _ (by rw [HVV.out]; rfl) (hL 1 (by decide))
         have e2 : xs 2 = .pointer (some ⟨q, 0, none⟩) := hv 2 _ (by rw [HVV.out]; rfl) (hL 2 (by decide))
         have e3 : xs 3 = .pointer (some ⟨q, 3, none⟩) := hv 3 _ (by rw [HVV.out]; rfl) (hL 3 (by decide))
         have e4 : xs 4 = .map (some R) := hv 4 _ (by rw [HVV.out]; rfl) (hL 4 (by decide))
         have e5 : xs 5 = .pointer (some ⟨q, 0, none⟩) := hv 5 _ (by rw [HVV.out]; rfl) (hL 5 (by decide))
         have e6 : xs 6 = .pointer (some ⟨q, 0, none⟩) := hv 6 _ (by rw [HVV.out]; rfl) (hL 6 (by decide))
         have e7 : xs 7 = .pointer (some ⟨q, 1, none⟩) := hv 7 _ (by rw [HVV.out]; rfl) (hL 7 (by decide))
         have e8 : xs 8 = .slice (some ⟨bF, oF, none⟩) f.lots.length cv := hv 8 _ (by rw [HVV.out]; rfl) (hL 8 (by decide))
         have e9 : xs 9 = .int .i64 (k : Nat) := hv 9 _ (by rw [HVV.out]; rfl) (hL 9 (by decide))
         have e10 : xs 10 = .pointer (some ⟨bF, oF + k, none⟩) := hv 10 _ (by rw [HVV.out]; rfl) (hL 10 (by decide))
         have e11 : xs 11 = .int .i64 (beforeI f k) := hv 11 _ (by rw [HVV.out]; rfl) (hL 11 (by decide))
         have e12 : xs 12 = .int .i64 (j : Nat) := hv 12 _ (by rw [HVV.out]; rfl) (hL 12 (by decide))
         have e13 : xs 13 = .int .i64 (beforeI f k + (j : Nat)) := hv 13 _ (by rw [HVV.out]; rfl) (hL 13 (by decide))
         have e14 : xs 14 = .int .u64 yo := hv 14 _ (by rw [HVV.out]; rfl) (hL 14 (by decide))
         have e15 : xs 15 = .int .u64 (bits .or .u64 xo yo) := hv 15 _ (by rw [HVV.out]; rfl) (hL 15 (by decide))
         have e16 : xs 16 = .int .u64 (bits .or .u64 xo yo) := hv 16 _ (by rw [HVV.out]; rfl) (hL 16 (by decide))
         simp only [putGo, Act.put, List.setIfInBounds_toArray, List.set_cons_zero, List.set_cons_succ, e0, e1, e2, e3, e4, e5, e6, e7, e8, e9, e10, e11, e12, e13, e14, e15, e16]
         clear hv e0 e1 e2 e3 e4 e5 e6 e7 e8 e9 e10 e11 e12 e13 e14 e15 e16
        have HW3 := Lib.hid hbw
        clear hbw h9 hL
        gi_wp2
        go_roundw
        case rel => exact ⟨j + 1, by omega, by go_num, by rw [HOS.out], HB3.out.trans (HW3.out.mono HB3.out.size)⟩
        case measure => simp [intOf]; omega
       ·obtain rfl : j = m := by omega
        have x3 := (HX2.out.ext HB3.out).2
        have HX3 := Lib.hid (HX2.out.ext HB3.out)
        have HB9' := Lib.hid (HB9.out.trans (HB3.out.mono (by have := HN2.out.size; omega)))
        obtain ⟨W3, hW3⟩ : ∃ W, wr = W := ⟨_, rfl⟩
        have HZ3 := Lib.hid HB3.out.size
        rw [hW3] at HN3 HX3 HB9' x3 HB3 HZ3 ⊢
        clear hW3
        gi_wp2
        have HXO := Lib.hid (rfl : orM M (beforeI f k) j = orM M (beforeI f k) j)
        obtain ⟨OM, hOM⟩ : ∃ x, orM M (beforeI f k) j = x := ⟨_, rfl⟩
        have HOM : Hid (orM M (beforeI f k) (lotAt f.lots k).ins.length = OM) := Lib.hid (by rw [HMM.out]; exact hOM)
        rw [hOM]
        clear hOM HXO x3
        obtain ⟨kn, hkn⟩ : ∃ x, (lotAt f.lots k).known = x := ⟨_, rfl⟩
        have HKN := Lib.hid hkn
        rw [hkn] at HX3 ⊢
        clear hkn HX2 HB9
        gi_loopw [109] (fun i' wr => ∃ y : Nat, y ≤ j ∧ i' = .int .i64 (y : Nat) ∧ Turned (fun k => k = R) W3 wr ∧ MaskMap wr R (lotM f M k y)) (fun i' _ => j - (intOf i').toNat)
        case atStart => exact ⟨0, by omega, rfl, Turned.refl _ _, by rw [lotM_zero]; exact HN3.out.mm⟩
        case round =>
         obtain ⟨y, hy, rfl, ht, hmm'⟩ := hrel
         have HT := Lib.hid ht
         have HMP := Lib.hid hmm'
         have HNM4 := Lib.hid (fun W' M' (h : Turned (fun k => k = R) W3 W') (hm : MaskMap W' R M') => HN3.out.maps (h.mono (fun _ _ e => .inr e)) (HN3.out.em.turned h (fun e => HRA.out.2.2.1 e.symm)) hm)
         have HXT := Lib.hid (fun W' (h : Turned (fun k => k = R) W3 W') => HX3.out.turned h (fun e => by have := HWS.out; have := HRA.out; have := HSZ9.out; have := HN9.out.size; omega))
         have HBT := Lib.hid (fun W' (h : Turned (fun k => k = R) W3 W') => HB9'.out.trans (h.below (B := B) (by have := HN3.out.size; omega) (fun k hk e => by have := HRA.out; omega)))
         clear ht hmm'
         by_cases hyl : y < j
         ·obtain ⟨bi, oi, ci', ⟨ai', hai, _, _, hai'⟩, _, _, hci⟩ := HLI.out
          obtain ⟨rfl, hlj, rfl⟩ : ai = ai' ∧ j = (lotAt f.lots k).ins.length ∧ ci = ci' := by simpa using hai
          obtain rfl : ai = some ⟨bi, oi, none⟩ := by rcases hai' with h | h; exact h; omega
          have c1 := ((hci y (by omega)).below (HBT.out _ HT.out) (Nat.le_refl _)).2
          have HSP : Hid (nth (lotAt f.lots k).ins y < beforeI f k) := Lib.hid (HLK.out.2.2.1 _ (nth_mem (by omega))).2.1
          have HSL := Lib.hid (lotM_step (f := f) (M := M) (k := k) (i := y) HLK.out.2.1 (by omega))
          rw [HOM.out, HKN.out] at HSL
          obtain ⟨sp, hsp⟩ : ∃ x, nth (lotAt f.lots k).ins y = x := ⟨_, rfl⟩
          rw [hsp] at c1 HSP HSL
          have HSPE := Lib.hid hsp
          obtain ⟨lR, hR1, hR2⟩ := HMP.out
          have HR1 := Lib.hid hR1
          have HR2 := Lib.hid hR2
          have p1 := (HNM4.out _ _ HT.out HMP.out).ptr.cell
          have q1 := (HNM4.out _ _ HT.out HMP.out).cs.cell 3
          simp at q1
          have hyk : y < (lotAt f.lots k).ins.length := by omega
          clear hsp hai hai' hci hR1 hR2 hlj
          cases kn
          ·rw [if_neg (by decide)] at HSL
           gi_wp2_with (gi_at_mapUpdate; refine wpListIn_update_ints rfl _ _ _ rfl Tryz.underlying60 Tryz.underlying3 rfl HR1.out rfl rfl ?_; intro w8 hs8 hg8 hz8; have HS8 := Lib.hid hs8; have HT8 : Hid (Turned (fun k => k = R) W3 w8) := Lib.hid (HT.out.trans (Turned.of_grown hg8 (fun k e => by simpa using e.symm))); clear hs8 hg8 hz8; have x8 := (HXT.out _ HT8.out).2)
           clear c1 p1 q1
           have HMP8 : Hid (MaskMap w8 R (putM (lotM f M k y) sp OM)) := Lib.hid (by
            exact MaskMap.put HS8.out HR2.out)
           go_roundw
           case rel => exact ⟨y + 1, by omega, by go_num, HT8.out, by rw [← HSL.out]; exact HMP8.out⟩
           case measure => simp [intOf]; omega
          ·rw [if_pos rfl] at HSL
           gi_wp2_with (gi_at_mapUpdate; refine wpListIn_update_ints rfl _ _ _ rfl Tryz.underlying60 Tryz.underlying3 rfl HR1.out rfl rfl ?_; intro w8 hs8 hg8 hz8; have HS8 := Lib.hid hs8; have HT8 : Hid (Turned (fun k => k = R) W3 w8) := Lib.hid (HT.out.trans (Turned.of_grown hg8 (fun k e => by simpa using e.symm))); clear hs8 hg8 hz8; have x8 := (HXT.out _ HT8.out).2)
           clear c1 p1 q1
           have HMP8 : Hid (MaskMap w8 R (putM (lotM f M k y) sp OM)) := Lib.hid (by
            exact MaskMap.put HS8.out HR2.out)
           have hpm := permB_parts (HLK.out.2.2.2.1 HKN.out)
           obtain ⟨bp, op, cp', ⟨ap', hap, _, _, hap'⟩, _, _, hcp⟩ := HLP.out
           obtain ⟨rfl, rfl⟩ : ap = ap' ∧ cp = cp' := by simpa using hap
           have hpl : y < (lotAt f.lots k).perm.length := by rw [hpm.2.1]; exact hyk
           obtain rfl : ap = some ⟨bp, op, none⟩ := by rcases hap' with h | h; exact h; omega
           have HCP : Hid (∀ W', Turned (fun k => k = R) W3 W' → W'.cell? ⟨bp, op + y, none⟩ = some (.int .i64 (nth (lotAt f.lots k).perm y))) := Lib.hid (fun W' h => ((hcp y hpl).below (HBT.out _ h) (Nat.le_refl _)).2)
           have hpi := hpm.1 _ (nth_mem hpl)
           obtain ⟨pi, hpi'⟩ : ∃ x, nth (lotAt f.lots k).perm y = x := ⟨_, rfl⟩
           rw [hpi'] at HCP HSL hpi
           obtain ⟨hp1, hp2⟩ := hpi
           obtain ⟨yo, hyo⟩ : ∃ x : Int, ((M (beforeI f k + pi) : Nat) : Int) = x := ⟨_, rfl⟩
           have HYO := Lib.hid hyo
           have HPU : Hid (putM (lotM f M k y) sp OM (beforeI f k + pi) = M (beforeI f k + pi)) := Lib.hid (by
            unfold putM
            rw [if_neg (by have := HSP.out; omega), HMO.out y pi hp1])
           have hbs : beforeI f k + pi < 9223372036854775807 := by omega
           obtain ⟨lS, hS1, hS2⟩ := HMP8.out
           have HS1 := Lib.hid hS1
           have HS2 := Lib.hid hS2
           clear hpm hap hap' hcp hpi' hyo hS1 hS2
           have HN8' := Lib.hid (HNM4.out _ _ HT8.out HMP8.out)
           have HPT : Hid (∀ W', Turned (fun k => k = R) w8 W' → Cell1 W' p (.pointer (some ⟨q, 0, none⟩)) ∧ CellsN W' q #[.slice a f.lots.length cap, .slice (some ⟨bF, oF, none⟩) f.lots.length cv, .map (some A), .map (some R)]) := Lib.hid (fun W' h => ⟨HN8'.out.ptr.turned h (fun e => HRA.out.2.2.2.2.1 e.symm), HN8'.out.cs.turned h (fun e => HRA.out.2.2.2.1 e.symm)⟩)
           have HPF : Hid (∀ W', Turned (fun k => k = R) w8 W' → W'.cell? ⟨bF, oF + k, none⟩ = some (.int .i64 (beforeI f k))) := Lib.hid (fun W' h => by
            have hown := HN8'.out.own.ltX bF rfl
            exact (h.cell (p := ⟨bF, oF + k, none⟩) hown.2 (fun e => by have h1 := HRA.out.2.1; have e2 : bF = R := e; omega)).trans (HCF.out _ _ HN8'.out))
           obtain ⟨V, hV⟩ : ∃ V : List (Option Value), V = [some (.pointer (some ⟨q, 0, none⟩)), some (.pointer (some ⟨q, 0, none⟩)), some (.pointer (some ⟨q, 3, none⟩)), some (.map (some R)), some (.int .i64 sp), some (.pointer (some ⟨q, 0, none⟩)), some (.pointer (some ⟨q, 0, none⟩)), some (.pointer (some ⟨q, 3, none⟩)), some (.map (some R)), some (.pointer (some ⟨q, 0, none⟩)), some (.pointer (some ⟨q, 0, none⟩)), some (.pointer (some ⟨q, 1, none⟩)), some (.slice (some ⟨bF, oF, none⟩) f.lots.length cv), some (.int .i64 (k : Nat)), some (.pointer (some ⟨bF, oF + k, none⟩)), some (.int .i64 (beforeI f k)), some (.pointer (some ⟨zW, 2, none⟩)), some (.slice (some ⟨bp, op, none⟩) (lotAt f.lots k).perm.length cp), some (.int .i64 (y : Nat)), some (.pointer (some ⟨bp, op + y, none⟩)), some (.int .i64 pi), some (.int .i64 (beforeI f k + pi)), some (.int .u64 yo), none] := ⟨_, rfl⟩
           have HVV := Lib.hid hV
           clear hV
           refine wpIn_region_V [some 122, some 123, some 124, some 125, some 126, some 127, some 128, some 129, some 130, some 131, some 132, some 133, some 134, some 135, some 136, some 137, some 138, some 139, some 140, some 141, some 142, some 143, some 144, none] (fun L w' xs => ValsAt V L xs ∧ (Turned (fun k => k = R) w8 w' ∧ ((L 23 = false → IntMap w' R lS) ∧ (L 23 = true → IntMap w' R (aset lS sp (.int .u64 yo))) ∧ (L 23 = true → L 22 = true)))) (by kernel_rfl) (by kernel_rfl) (by rfl) (by rfl) (by rfl) ?_ ?_ ?_
           focus
            exact fun xs => ⟨ValsAt.none _ _, ⟨rfl, rfl, rfl, Nat.le_refl _, fun _ _ _ => rfl⟩, (fun _ => HS1.out), (fun e => by cases e), (fun e => by cases e)⟩
           focus
            refine ⟨?_, ?_, ?_, ?_, ?_, ?_, ?_, ?_, ?_, ?_, ?_, ?_, ?_, ?_, ?_, ?_, ?_, ?_, ?_, ?_, ?_, ?_, ?_, ?_, trivial⟩
            all_goals
             intro L a' w' xs hi hd hf hJ K hK
             obtain ⟨hv, htw, h9⟩ := hJ
             have HF := Lib.hid hf
             have HVA := Lib.hid hv
             have HLI := Lib.hid hi
             clear hf hv hi
            focus
             clear hd
             obtain ⟨ρ, hρ⟩ : ∃ ρ, a'.eval = ρ := ⟨_, rfl⟩
             have hcst := cstE hρ
             have l3 : ρ (.tmp 3) = .pointer (some ⟨p, 0, none⟩) := (congrFun hρ (.tmp 3)).symm.trans (HF.out.lo 3 rfl)
             have m0 := (HPT.out _ htw).1.cell
             rw [if_pos (by simp [Region.wanted])]
             unfold Oper.wpIn
             refine ⟨fun _ _ => trivial, ?_⟩
             rw [Oper.semAt_plain _ _ _ (by intro c hc; cases hc)]
             rw [hρ]
             clear hρ
             go_simp
             exact hK.out _ _ ⟨HVA.out.set (i := 0) (by rw [HVV.out]; rfl), htw, (by exact h9)⟩
            focus
             obtain ⟨d0, _⟩ := hd
             obtain ⟨ρ, hρ⟩ : ∃ ρ, a'.eval = ρ := ⟨_, rfl⟩
             have hcst := cstE hρ
             have v0 : ρ (.tmp 122) = .pointer (some ⟨q, 0, none⟩) := (congrFun hρ (.tmp 122)).symm.trans ((HF.out.ev 0 rfl d0).trans (HVA.out 0 _ (by rw [HVV.out]; rfl) d0))
             rw [if_pos (by simp [Region.wanted])]
             unfold Oper.wpIn
             refine ⟨fun _ _ => trivial, ?_⟩
             rw [Oper.semAt_plain _ _ _ (by intro c hc; cases hc)]
             rw [hρ]
             clear hρ
             go_simp
             exact hK.out _ _ ⟨HVA.out.set (i := 1) (by rw [HVV.out]; rfl), htw, (by exact h9)⟩
            focus
             obtain ⟨d1, _⟩ := hd
             obtain ⟨ρ, hρ⟩ : ∃ ρ, a'.eval = ρ := ⟨_, rfl⟩
             have hcst := cstE hρ
             have v1 : ρ (.tmp 123) = .pointer (some ⟨q, 0, none⟩) := (congrFun hρ (.tmp 123)).symm.trans ((HF.out.ev 1 rfl d1).trans (HVA.out 1 _ (by rw [HVV.out]; rfl) d1))
             rw [if_pos (by simp [Region.wanted])]
             unfold Oper.wpIn
             refine ⟨fun _ _ => trivial, ?_⟩
             rw [Oper.semAt_plain _ _ _ (by intro c hc; cases hc)]
             rw [hρ]
             clear hρ
             go_simp
             exact hK.out _ _ ⟨HVA.out.set (i := 2) (by rw [HVV.out]; rfl), htw, (by exact h9)⟩
            focus
             obtain ⟨d2, _⟩ := hd
             obtain ⟨ρ, hρ⟩ : ∃ ρ, a'.eval = ρ := ⟨_, rfl⟩
             have hcst := cstE hρ
             have v2 : ρ (.tmp 124) = .pointer (some ⟨q, 3, none⟩) := (congrFun hρ (.tmp 124)).symm.trans ((HF.out.ev 2 rfl d2).trans (HVA.out 2 _ (by rw [HVV.out]; rfl) d2))
             have m0 := (HPT.out _ htw).2.cell 3
             simp at m0
             rw [if_pos (by simp [Region.wanted])]
             unfold Oper.wpIn
             refine ⟨fun _ _ => trivial, ?_⟩
             rw [Oper.semAt_plain _ _ _ (by intro c hc; cases hc)]
             rw [hρ]
             clear hρ
             go_simp
             exact hK.out _ _ ⟨HVA.out.set (i := 3) (by rw [HVV.out]; rfl), htw, (by exact h9)⟩
            focus
             clear hd
             obtain ⟨ρ, hρ⟩ : ∃ ρ, a'.eval = ρ := ⟨_, rfl⟩
             have hcst := cstE hρ
             have l16 : ρ (.tmp 16) = .int .i64 sp := (congrFun hρ (.tmp 16)).symm.trans (HF.out.lo 16 rfl)
             rw [if_pos (by simp [Region.wanted])]
             unfold Oper.wpIn
             refine ⟨fun _ _ => trivial, ?_⟩
             rw [Oper.semAt_plain _ _ _ (by intro c hc; cases hc)]
             rw [hρ]
             clear hρ
             go_simp
             exact hK.out _ _ ⟨HVA.out.set (i := 4) (by rw [HVV.out]; rfl), htw, (by exact h9)⟩
            focus
             clear hd
             obtain ⟨ρ, hρ⟩ : ∃ ρ, a'.eval = ρ := ⟨_, rfl⟩
             have hcst := cstE hρ
             have l3 : ρ (.tmp 3) = .pointer (some ⟨p, 0, none⟩) := (congrFun hρ (.tmp 3)).symm.trans (HF.out.lo 3 rfl)
             have m0 := (HPT.out _ htw).1.cell
             rw [if_pos (by simp [Region.wanted])]
             unfold Oper.wpIn
             refine ⟨fun _ _ => trivial, ?_⟩
             rw [Oper.semAt_plain _ _ _ (by intro c hc; cases hc)]
             rw [hρ]
             clear hρ
             go_simp
             exact hK.out _ _ ⟨HVA.out.set (i := 5) (by rw [HVV.out]; rfl), htw, (by exact h9)⟩
            focus
             obtain ⟨d5, _⟩ := hd
             obtain ⟨ρ, hρ⟩ : ∃ ρ, a'.eval = ρ := ⟨_, rfl⟩
             have hcst := cstE hρ
             have v5 : ρ (.tmp 127) = .pointer (some ⟨q, 0, none⟩) := (congrFun hρ (.tmp 127)).symm.trans ((HF.out.ev 5 rfl d5).trans (HVA.out 5 _ (by rw [HVV.out]; rfl) d5))
             rw [if_pos (by simp [Region.wanted])]
             unfold Oper.wpIn
             refine ⟨fun _ _ => trivial, ?_⟩
             rw [Oper.semAt_plain _ _ _ (by intro c hc; cases hc)]
             rw [hρ]
             clear hρ
             go_simp
             exact hK.out _ _ ⟨HVA.out.set (i := 6) (by rw [HVV.out]; rfl), htw, (by exact h9)⟩
            focus
             obtain ⟨d6, _⟩ := hd
             obtain ⟨ρ, hρ⟩ : ∃ ρ, a'.eval = ρ := ⟨_, rfl⟩
             have hcst := cstE hρ
             have v6 : ρ (.tmp 128) = .pointer (some ⟨q, 0, none⟩) := (congrFun hρ (.tmp 128)).symm.trans ((HF.out.ev 6 rfl d6).trans (HVA.out 6 _ (by rw [HVV.out]; rfl) d6))
             rw [if_pos (by simp [Region.wanted])]
             unfold Oper.wpIn
             refine ⟨fun _ _ => trivial, ?_⟩
             rw [Oper.semAt_plain _ _ _ (by intro c hc; cases hc)]
             rw [hρ]
             clear hρ
             go_simp
             exact hK.out _ _ ⟨HVA.out.set (i := 7) (by rw [HVV.out]; rfl), htw, (by exact h9)⟩
            focus
             obtain ⟨d7, _⟩ := hd
             obtain ⟨ρ, hρ⟩ : ∃ ρ, a'.eval = ρ := ⟨_, rfl⟩
             have hcst := cstE hρ
             have v7 : ρ (.tmp 129) = .pointer (some ⟨q, 3, none⟩) := (congrFun hρ (.tmp 129)).symm.trans ((HF.out.ev 7 rfl d7).trans (HVA.out 7 _ (by rw [HVV.out]; rfl) d7))
             have m0 := (HPT.out _ htw).2.cell 3
             simp at m0
             rw [if_pos (by simp [Region.wanted])]
             unfold Oper.wpIn
             refine ⟨fun _ _ => trivial, ?_⟩
             rw [Oper.semAt_plain _ _ _ (by intro c hc; cases hc)]
             rw [hρ]
             clear hρ
             go_simp
             exact hK.out _ _ ⟨HVA.out.set (i := 8) (by rw [HVV.out]; rfl), htw, (by exact h9)⟩
            focus
             clear hd
             obtain ⟨ρ, hρ⟩ : ∃ ρ, a'.eval = ρ := ⟨_, rfl⟩
             have hcst := cstE hρ
             have l3 : ρ (.tmp 3) = .pointer (some ⟨p, 0, none⟩) := (congrFun hρ (.tmp 3)).symm.trans (HF.out.lo 3 rfl)
             have m0 := (HPT.out _ htw).1.cell
             rw [if_pos (by simp [Region.wanted])]
             unfold Oper.wpIn
             refine ⟨fun _ _ => trivial, ?_⟩
             rw [Oper.semAt_plain _ _ _ (by intro c hc; cases hc)]
             rw [hρ]
             clear hρ
             go_simp
             exact hK.out _ _ ⟨HVA.out.set (i := 9) (by rw [HVV.out]; rfl), htw, (by exact h9)⟩
            focus
             obtain ⟨d9, _⟩ := hd
             obtain ⟨ρ, hρ⟩ : ∃ ρ, a'.eval = ρ := ⟨_, rfl⟩
             have hcst := cstE hρ
             have v9 : ρ (.tmp 131) = .pointer (some ⟨q, 0, none⟩) := (congrFun hρ (.tmp 131)).symm.trans ((HF.out.ev 9 rfl d9).trans (HVA.out 9 _ (by rw [HVV.out]; rfl) d9))
             rw [if_pos (by simp [Region.wanted])]
             unfold Oper.wpIn
             refine ⟨fun _ _ => trivial, ?_⟩
             rw [Oper.semAt_plain _ _ _ (by intro c hc; cases hc)]
             rw [hρ]
             clear hρ
             go_simp
             exact hK.out _ _ ⟨HVA.out.set (i := 10) (by rw [HVV.out]; rfl), htw, (by exact h9)⟩
            focus
             obtain ⟨d10, _⟩ := hd
             obtain ⟨ρ, hρ⟩ : ∃ ρ, a'.eval = ρ := ⟨_, rfl⟩
             have hcst := cstE hρ
             have v10 : ρ (.tmp 132) = .pointer (some ⟨q, 0, none⟩) := (congrFun hρ (.tmp 132)).symm.trans ((HF.out.ev 10 rfl d10).trans (HVA.out 10 _ (by rw [HVV.out]; rfl) d10))
             rw [if_pos (by simp [Region.wanted])]
             unfold Oper.wpIn
             refine ⟨fun _ _ => trivial, ?_⟩
             rw [Oper.semAt_plain _ _ _ (by intro c hc; cases hc)]
             rw [hρ]
             clear hρ
             go_simp
             exact hK.out _ _ ⟨HVA.out.set (i := 11) (by rw [HVV.out]; rfl), htw, (by exact h9)⟩
            focus
             obtain ⟨d11, _⟩ := hd
             obtain ⟨ρ, hρ⟩ : ∃ ρ, a'.eval = ρ := ⟨_, rfl⟩
             have hcst := cstE hρ
             have v11 : ρ (.tmp 133) = .pointer (some ⟨q, 1, none⟩) := (congrFun hρ (.tmp 133)).symm.trans ((HF.out.ev 11 rfl d11).trans (HVA.out 11 _ (by rw [HVV.out]; rfl) d11))
             have m0 := (HPT.out _ htw).2.cell 1
             simp at m0
             rw [if_pos (by simp [Region.wanted])]
             unfold Oper.wpIn
             refine ⟨fun _ _ => trivial, ?_⟩
             rw [Oper.semAt_plain _ _ _ (by intro c hc; cases hc)]
             rw [hρ]
             clear hρ
             go_simp
             exact hK.out _ _ ⟨HVA.out.set (i := 12) (by rw [HVV.out]; rfl), htw, (by exact h9)⟩
            focus
             clear hd
             obtain ⟨ρ, hρ⟩ : ∃ ρ, a'.eval = ρ := ⟨_, rfl⟩
             have hcst := cstE hρ
             have l11 : ρ (.tmp 11) = .int .i64 (k : Nat) := (congrFun hρ (.tmp 11)).symm.trans (HF.out.lo 11 rfl)
             rw [if_pos (by simp [Region.wanted])]
             unfold Oper.wpIn
             refine ⟨fun _ _ => trivial, ?_⟩
             rw [Oper.semAt_plain _ _ _ (by intro c hc; cases hc)]
             rw [hρ]
             clear hρ
             go_simp
             exact hK.out _ _ ⟨HVA.out.set (i := 13) (by rw [HVV.out]; rfl), htw, (by exact h9)⟩
            focus
             obtain ⟨d12, d13, _⟩ := hd
             obtain ⟨ρ, hρ⟩ : ∃ ρ, a'.eval = ρ := ⟨_, rfl⟩
             have hcst := cstE hρ
             have v12 : ρ (.tmp 134) = .slice (some ⟨bF, oF, none⟩) f.lots.length cv := (congrFun hρ (.tmp 134)).symm.trans ((HF.out.ev 12 rfl d12).trans (HVA.out 12 _ (by rw [HVV.out]; rfl) d12))
             have v13 : ρ (.tmp 135) = .int .i64 (k : Nat) := (congrFun hρ (.tmp 135)).symm.trans ((HF.out.ev 13 rfl d13).trans (HVA.out 13 _ (by rw [HVV.out]; rfl) d13))
             rw [if_pos (by simp [Region.wanted])]
             unfold Oper.wpIn
             refine ⟨fun _ _ => trivial, ?_⟩
             rw [Oper.semAt_plain _ _ _ (by intro c hc; cases hc)]
             rw [hρ]
             clear hρ
             go_simp
             exact hK.out _ _ ⟨HVA.out.set (i := 14) (by rw [HVV.out]; rfl), htw, (by exact h9)⟩
            focus
             obtain ⟨d14, _⟩ := hd
             obtain ⟨ρ, hρ⟩ : ∃ ρ, a'.eval = ρ := ⟨_, rfl⟩
             have hcst := cstE hρ
             have v14 : ρ (.tmp 136) = .pointer (some ⟨bF, oF + k, none⟩) := (congrFun hρ (.tmp 136)).symm.trans ((HF.out.ev 14 rfl d14).trans (HVA.out 14 _ (by rw [HVV.out]; rfl) d14))
             have m0 := HPF.out _ htw
             rw [if_pos (by simp [Region.wanted])]
             unfold Oper.wpIn
             refine ⟨fun _ _ => trivial, ?_⟩
             rw [Oper.semAt_plain _ _ _ (by intro c hc; cases hc)]
             rw [hρ]
             clear hρ
             go_simp
             exact hK.out _ _ ⟨HVA.out.set (i := 15) (by rw [HVV.out]; rfl), htw, (by exact h9)⟩
            focus
             clear hd
             obtain ⟨ρ, hρ⟩ : ∃ ρ, a'.eval = ρ := ⟨_, rfl⟩
             have hcst := cstE hρ
             have l12 : ρ (.tmp 12) = .pointer (some ⟨zW, 0, none⟩) := (congrFun hρ (.tmp 12)).symm.trans (HF.out.lo 12 rfl)
             rw [if_pos (by simp [Region.wanted])]
             unfold Oper.wpIn
             refine ⟨fun _ _ => trivial, ?_⟩
             rw [Oper.semAt_plain _ _ _ (by intro c hc; cases hc)]
             rw [hρ]
             clear hρ
             go_simp
             exact hK.out _ _ ⟨HVA.out.set (i := 16) (by rw [HVV.out]; rfl), htw, (by exact h9)⟩
            focus
             obtain ⟨d16, _⟩ := hd
             obtain ⟨ρ, hρ⟩ : ∃ ρ, a'.eval = ρ := ⟨_, rfl⟩
             have hcst := cstE hρ
             have v16 : ρ (.tmp 138) = .pointer (some ⟨zW, 2, none⟩) := (congrFun hρ (.tmp 138)).symm.trans ((HF.out.ev 16 rfl d16).trans (HVA.out 16 _ (by rw [HVV.out]; rfl) d16))
             have m0 := (HXT.out _ (HT8.out.trans htw)).2 2
             simp at m0
             rw [if_pos (by simp [Region.wanted])]
             unfold Oper.wpIn
             refine ⟨fun _ _ => trivial, ?_⟩
             rw [Oper.semAt_plain _ _ _ (by intro c hc; cases hc)]
             rw [hρ]
             clear hρ
             go_simp
             exact hK.out _ _ ⟨HVA.out.set (i := 17) (by rw [HVV.out]; rfl), htw, (by exact h9)⟩
            focus
             clear hd
             obtain ⟨ρ, hρ⟩ : ∃ ρ, a'.eval = ρ := ⟨_, rfl⟩
             have hcst := cstE hρ
             have l15 : ρ (.tmp 15) = .int .i64 (y : Nat) := (congrFun hρ (.tmp 15)).symm.trans (HF.out.lo 15 rfl)
             rw [if_pos (by simp [Region.wanted])]
             unfold Oper.wpIn
             refine ⟨fun _ _ => trivial, ?_⟩
             rw [Oper.semAt_plain _ _ _ (by intro c hc; cases hc)]
             rw [hρ]
             clear hρ
             go_simp
             exact hK.out _ _ ⟨HVA.out.set (i := 18) (by rw [HVV.out]; rfl), htw, (by exact h9)⟩
            focus
             obtain ⟨d17, d18, _⟩ := hd
             obtain ⟨ρ, hρ⟩ : ∃ ρ, a'.eval = ρ := ⟨_, rfl⟩
             have hcst := cstE hρ
             have v17 : ρ (.tmp 139) = .slice (some ⟨bp, op, none⟩) (lotAt f.lots k).perm.length cp := (congrFun hρ (.tmp 139)).symm.trans ((HF.out.ev 17 rfl d17).trans (HVA.out 17 _ (by rw [HVV.out]; rfl) d17))
             have v18 : ρ (.tmp 140) = .int .i64 (y : Nat) := (congrFun hρ (.tmp 140)).symm.trans ((HF.out.ev 18 rfl d18).trans (HVA.out 18 _ (by rw [HVV.out]; rfl) d18))
             rw [if_pos (by simp [Region.wanted])]
             unfold Oper.wpIn
             refine ⟨fun _ _ => trivial, ?_⟩
             rw [Oper.semAt_plain _ _ _ (by intro c hc; cases hc)]
             rw [hρ]
             clear hρ
             go_simp
             exact hK.out _ _ ⟨HVA.out.set (i := 19) (by rw [HVV.out]; rfl), htw, (by exact h9)⟩
            focus
             obtain ⟨d19, _⟩ := hd
             obtain ⟨ρ, hρ⟩ : ∃ ρ, a'.eval = ρ := ⟨_, rfl⟩
             have hcst := cstE hρ
             have v19 : ρ (.tmp 141) = .pointer (some ⟨bp, op + y, none⟩) := (congrFun hρ (.tmp 141)).symm.trans ((HF.out.ev 19 rfl d19).trans (HVA.out 19 _ (by rw [HVV.out]; rfl) d19))
             have m0 := HCP.out _ (HT8.out.trans htw)
             rw [if_pos (by simp [Region.wanted])]
             unfold Oper.wpIn
             refine ⟨fun _ _ => trivial, ?_⟩
             rw [Oper.semAt_plain _ _ _ (by intro c hc; cases hc)]
             rw [hρ]
             clear hρ
             go_simp
             exact hK.out _ _ ⟨HVA.out.set (i := 20) (by rw [HVV.out]; rfl), htw, (by exact h9)⟩
            focus
             obtain ⟨d15, d20, _⟩ := hd
             obtain ⟨ρ, hρ⟩ : ∃ ρ, a'.eval = ρ := ⟨_, rfl⟩
             have hcst := cstE hρ
             have v15 : ρ (.tmp 137) = .int .i64 (beforeI f k) := (congrFun hρ (.tmp 137)).symm.trans ((HF.out.ev 15 rfl d15).trans (HVA.out 15 _ (by rw [HVV.out]; rfl) d15))
             have v20 : ρ (.tmp 142) = .int .i64 pi := (congrFun hρ (.tmp 142)).symm.trans ((HF.out.ev 20 rfl d20).trans (HVA.out 20 _ (by rw [HVV.out]; rfl) d20))
             have hwj : IntKind.i64.wrap (beforeI f k + pi) = beforeI f k + pi := IntWalk.i64_in _ (by omega)
             rw [if_pos (by simp [Region.wanted])]
             unfold Oper.wpIn
             refine ⟨fun _ _ => trivial, ?_⟩
             rw [Oper.semAt_plain _ _ _ (by intro c hc; cases hc)]
             rw [hρ]
             clear hρ
             go_simp
             exact hK.out _ _ ⟨HVA.out.set (i := 21) (by rw [HVV.out]; rfl), htw, (by exact h9)⟩
            focus
             obtain ⟨d8, d21, _⟩ := hd
             have v8 : a'.eval (.tmp 130) = .map (some R) := (HF.out.ev 8 rfl d8).trans (HVA.out 8 _ (by rw [HVV.out]; rfl) d8)
             have v21 : a'.eval (.tmp 143) = .int .i64 (beforeI f k + pi) := (HF.out.ev 21 rfl d21).trans (HVA.out 21 _ (by rw [HVV.out]; rfl) d21)
             rw [if_pos (by simp [Region.wanted])]
             have e23 : L 23 = false := by
              cases e : L 23 with
              | false => rfl
              | true => have := h9.2.2 e; rw [HLI.out] at this; cases this
             have hl1 := h9.1 e23
             have hrun := run_lookup_ints (P := Tryz.prog) Tryz.underlying60 Tryz.underlying3 (Tryz.zeroValue87 w') hl1 (beforeI f k + pi) false
             have hv : (if false = true then Value.tuple #[(alook lS (beforeI f k + pi)).getD (.int .u64 0), .bool (alook lS (beforeI f k + pi)).isSome] else (alook lS (beforeI f k + pi)).getD (.int .u64 0)) = .int .u64 yo := by rw [if_neg (by decide), HS2.out, HPU.out]; unfold maskV; rw [HYO.out]
             rw [hv] at hrun
             refine wpIn_of_lookup rfl v8 v21 hrun ?_
             exact hK.out _ _ ⟨HVA.out.set (i := 22) (by rw [HVV.out]; rfl), htw, h9.1, h9.2.1, (fun _ => rfl)⟩
            focus
             obtain ⟨d3, d4, d22, d0, d1, d2, _, _, d5, d6, d7, d8, d9, d10, d11, d12, d13, d14, d15, d16, d17, d18, d19, d20, d21, _, _⟩ := hd
             have v3 : a'.eval (.tmp 125) = .map (some R) := (HF.out.ev 3 rfl d3).trans (HVA.out 3 _ (by rw [HVV.out]; rfl) d3)
             have v4 : a'.eval (.tmp 126) = .int .i64 sp := (HF.out.ev 4 rfl d4).trans (HVA.out 4 _ (by rw [HVV.out]; rfl) d4)
             have v22 : a'.eval (.tmp 144) = .int .u64 yo := (HF.out.ev 22 rfl d22).trans (HVA.out 22 _ (by rw [HVV.out]; rfl) d22)
             rw [if_pos (by simp [Region.wanted])]
             obtain ⟨w5, y1, y2, y3, y4⟩ := run_update_ints (P := Tryz.prog) (T := 60) Tryz.underlying60 Tryz.underlying3 (h9.1 HLI.out) sp (.int .u64 yo)
             refine wpIn_of_update rfl v3 v4 v22 y1 ?_
             exact hK.out undef _ ⟨HVA.out.free (i := 23) (by rw [HVV.out]; rfl) _, htw.trans (Turned.of_grown y3 (fun k e => by simpa using e.symm)), (fun e => by cases e), (fun _ => y2), (fun _ => d22)⟩
           focus
            intro L w' xs hL hJ
            obtain ⟨hv, htw, h9⟩ := hJ
            have e0 : xs 0 = .pointer (some ⟨q, 0, none⟩) := hv 0 _ (by rw [HVV.out]; rfl) (hL 0 (by decide))
            have e1 : xs 1 = .pointer (some ⟨q, 0, none⟩) := hv 1 _ (by rw [HVV.out]; rfl) (hL 1 (by decide))
            have e2 : xs 2 = .pointer (some ⟨q, 3, none⟩) := hv 2 _ (by rw [HVV.out]; rfl) (hL 2 (by decide))
            have e3 : xs 3 = .map (some R) := hv 3 _ (by rw [HVV.out]; rfl) (hL 3 (by decide))
            have e4 : xs 4 = .int .i64 sp := hv 4 _ (by rw [HVV.out]; rfl) (hL 4 (by decide))
            have e5 : xs 5 = .pointer (some ⟨q, 0, none⟩) := hv 5 _ (by rw [HVV.out]; rfl) (hL 5 (by decide))
            have e6 : xs 6 = .pointer (some ⟨q, 0, none⟩) := hv 6 _ (by rw [HVV.out]; rfl) (hL 6 (by decide))
            have e7 : xs 7 = .pointer (some ⟨q, 3, none⟩) := hv 7 _ (by rw [HVV.out]; rfl) (hL 7 (by decide))
            have e8 : xs 8 = .map (some R) := hv 8 _ (by rw [HVV.out]; rfl) (hL 8 (by decide))
            have e9 : xs 9 = .pointer (some ⟨q, 0, none⟩) := hv 9 _ (by rw [HVV.out]; rfl) (hL 9 (by decide))
            have e10 : xs 10 = .pointer (some ⟨q, 0, none⟩) := hv 10 _ (by rw [HVV.out]; rfl) (hL 10 (by decide))
            have e11 : xs 11 = .pointer (some ⟨q, 1, none⟩) := hv 11 _ (by rw [HVV.out]; rfl) (hL 11 (by decide))
            have e12 : xs 12 = .slice (some ⟨bF, oF, none⟩) f.lots.length cv := hv 12 _ (by rw [HVV.out]; rfl) (hL 12 (by decide))
            have e13 : xs 13 = .int .i64 (k : Nat) := hv 13 _ (by rw [HVV.out]; rfl) (hL 13 (by decide))
            have e14 : xs 14 = .pointer (some ⟨bF, oF + k, none⟩) := hv 14 _ (by rw [HVV.out]; rfl) (hL 14 (by decide))
            have e15 : xs 15 = .int .i64 (beforeI f k) := hv 15 _ (by rw [HVV.out]; rfl) (hL 15 (by decide))
            have e16 : xs 16 = .pointer (some ⟨zW, 2, none⟩) := hv 16 _ (by rw [HVV.out]; rfl) (hL 16 (by decide))
            have e17 : xs 17 = .slice (some ⟨bp, op, none⟩) (lotAt f.lots k).perm.length cp := hv 17 _ (by rw [HVV.out]; rfl) (hL 17 (by decide))
            have e18 : xs 18 = .int .i64 (y : Nat) := hv 18 _ (by rw [HVV.out]; rfl) (hL 18 (by decide))
            have e19 : xs 19 = .pointer (some ⟨bp, op + y, none⟩) := hv 19 _ (by rw [HVV.out]; rfl) (hL 19 (by decide))
            have e20 : xs 20 = .int .i64 pi := hv 20 _ (by rw [HVV.out]; rfl) (hL 20 (by decide))
            have e21 : xs 21 = .int .i64 (beforeI f k + pi) := hv 21 _ (by rw [HVV.out]; rfl) (hL 21 (by decide))
            have e22 : xs 22 = .int .u64 yo := hv 22 _ (by rw [HVV.out]; rfl) (hL 22 (by decide))
            simp only [putGo, Act.put, List.setIfInBounds_toArray, List.set_cons_zero, List.set_cons_succ, e0, e1, e2, e3, e4, e5, e6, e7, e8, e9, e10, e11, e12, e13, e14, e15, e16, e17, e18, e19, e20, e21, e22]
            clear hv e0 e1 e2 e3 e4 e5 e6 e7 e8 e9 e10 e11 e12 e13 e14 e15 e16 e17 e18 e19 e20 e21 e22
           have hX := h9.2.1 (hL 23 (by decide))
           have HX9 := Lib.hid hX
           have HT9 := Lib.hid (HT8.out.trans htw)
           clear hX h9 htw hL x8
           gi_wp2
           go_roundw
           case rel =>
            refine ⟨y + 1, by omega, by go_num, HT9.out, ?_⟩
            have h := HX9.out
            rw [← HYO.out] at h
            have h2 := MaskMap.put h HS2.out
            rw [putM_twice] at h2
            rw [← HSL.out]
            exact h2
           case measure => simp [intOf]; omega
         ·obtain rfl : y = j := by omega
          gi_wp2
          have HN5 := HNM4.out _ _ HT.out HMP.out
          have ht5 : Turned (fun k => k = R ∨ st ≤ k) W2 wr := (Turned.of_below (X := fun k => k = R ∨ st ≤ k) (HB3.out)).trans (HT.out.mono (fun k _ e => .inl e))
          refine ⟨ht5, _, HN5, ?_, HBT.out _ HT.out⟩
          rw [HKI.out]
          have h := lotM_ok hkl HM.out
          rw [HMM.out] at h
          exact h
     case hdone =>
      rintro d st W hd hds hsW ⟨M, hn, hm, _⟩ hk
      have HD := Lib.hid hk
      have HNX := Lib.hid hn
      have HMX := Lib.hid hm
      have r1 := hn.ptr.cell
      clear hn hm hk
      go_wp2
      refine ⟨by simp, .inl ⟨_, _, rfl, run_takeDeferred HD.out, ?_⟩⟩
      have hts : Turned (fun k => k = d) W (W.putObj d (.deferred none)) := Turned.putObj _ _ _ rfl
      have hn' := HNX.out.turned hts (fun k hk e => by have := HOV.out k hk; omega)
      refine ⟨.pointer (some ⟨q, 0, none⟩), by simp [results, Tryz.results24, go_sem], q, rfl, ?_, hn'.hb⟩
      subst E
      exact hn'.lots rfl (by have := HMX.out; rw [Nat.sub_self] at this; exact this)
end Go.Proofs.YteiaeaciaglmgaaGreat
namespace Go.Proofs.YteiaeaciaglmgaaGreat
open Go.RowKit
/-- does a spot lead to an end? -/
def leadE (f : Flow) (s e : Int) : Bool := hasB (endsL f) e && rAt f 0 s e
theorem and_one64v (n : Nat) (hn : n < 18446744073709551616) (k : Nat) : (bits BinOp.and IntKind.u64 ((n : Int) / 2 ^ k) 1 == 1) = n.testBit k := by
 have e : (n : Int) / 2 ^ k = ((n / 2 ^ k : Nat) : Int) := by simp
 have h1 : n / 2 ^ k < 18446744073709551616 := Nat.lt_of_le_of_lt (Nat.div_le_self _ _) hn
 rw [e, show (1 : Int) = ((1 : Nat) : Int) from rfl, u64_and_nat _ _ h1 (by omega)]
 rw [Nat.testBit_eq_decide_div_mod_eq, Nat.and_one_is_mod, Bool.eq_iff_iff]
 simp only [beq_iff_eq, decide_eq_true_eq]
 omega
set_option maxHeartbeats 4000000 in
set_option maxRecDepth 100000 in
/-- explain.lots.leads -/
theorem leads_any (C D : Nat) (w : World) (q : Nat) (vl : Value) (f : Flow) (s e : Int) (h : LotsAt C D w q vl f) (h0 : checkE f = 0) :
  Calls Tryz.prog 25 #[.pointer (some ⟨q, 0, none⟩), .int .i64 s, .int .i64 e] w fun x w' => x = .returned (.bool (leadE f s e)) ∧ w' = w := by
 obtain ⟨vF, A, R, M, h1, h2, h3, h4, h5, h6, ⟨lA, hA1, hA2⟩, ⟨lR, hR1, hR2⟩, hm⟩ := h.lay
 have HA := Lib.hid hA1
 have HR := Lib.hid hR1
 have HR2 := Lib.hid hR2
 have q2 := h5.cell 2
 have q3 := h5.cell 3
 simp at q2 q3
 have hl := hA2 e
 rw [List.take_of_length_le (Nat.le_refl _)] at hl
 have HLE : Hid (leadE f s e = (hasB (endsL f) e && rAt f 0 s e)) := Lib.hid rfl
 obtain ⟨LE, hLE⟩ : ∃ x, leadE f s e = x := ⟨_, rfl⟩
 rw [hLE] at HLE ⊢
 have HZ := Lib.hid (Tryz.zeroValue3 w)
 have HZ2 := Lib.hid (Tryz.zeroValue87 w)
 cases hb : hasB (endsL f) e
 ·rw [hb, if_neg (by decide)] at hl
  rw [hb, Bool.false_and] at HLE
  have HL := Lib.hid hl
  clear hl hA2 hR2 hm h5 h6 hA1 hR1 hb hLE
  go_enter Tryz.func25, Tryz.ntmps25
  go_wp2_with (at_lookup; refine wpList_lookup_ints rfl _ _ _ rfl Tryz.underlying57 Tryz.underlying3 HZ.out rfl HA.out rfl ?_; rw [HL.out])
  go_ret
  exact ⟨by rw [HLE.out]; rfl, rfl⟩
 ·rw [hb, if_pos rfl] at hl
  rw [hb, Bool.true_and] at HLE
  have hi := nth_idx (hasB_iff.1 hb)
  have h64 := ends_64 h0
  obtain ⟨j, hj⟩ : ∃ j, (endsL f).idxOf e = j := ⟨_, rfl⟩
  rw [hj] at hl hi
  have HL := Lib.hid hl
  have hj64 : j ≤ 64 := by omega
  have hbit := (hm s).2 j hi.1
  rw [hi.2] at hbit
  have hand := and_one64v (M s) (hm s).1 j
  rw [hbit, ← HLE.out] at hand
  obtain ⟨mo, hmo⟩ : ∃ x : Int, ((M s : Nat) : Int) = x := ⟨_, rfl⟩
  rw [hmo] at hand
  have HMO : Hid (maskV (M s) = .int .u64 mo) := Lib.hid (by unfold maskV; rw [hmo])
  clear hl hA2 hR2 hm h5 h6 hA1 hR1 hb hLE hbit hi hj hmo h64
  go_enter Tryz.func25, Tryz.ntmps25
  go_wp2_with (at_lookup; first | (refine wpList_lookup_ints rfl _ _ true rfl Tryz.underlying57 Tryz.underlying3 HZ.out rfl HA.out rfl ?_; rw [HL.out]) | (refine wpList_lookup_ints rfl _ _ false rfl Tryz.underlying60 Tryz.underlying3 HZ2.out rfl HR.out rfl ?_; rw [HR2.out, HMO.out]))
  go_ret
  exact ⟨rfl, rfl⟩
end Go.Proofs.YteiaeaciaglmgaaGreat
namespace Go.Proofs.YteiaeaciaglmgaaGreat
open Go.RowKit
def intsA (p : List Int) : Array Value := (p.map (Value.int .i64)).toArray
theorem intsA_at {p : List Int} {i : Nat} (hi : i < p.length) : (intsA p)[i]? = some (.int .i64 (nth p i)) := by
 unfold intsA
 simp [hi, nth_lt hi]
theorem intsA_size (p : List Int) : (intsA p).size = p.length := by simp [intsA]
theorem intsA_set (p : List Int) (i : Nat) (x : Int) : (intsA p).setIfInBounds i (.int .i64 x) = intsA (p.set i x) := by
 unfold intsA
 simp
theorem nth_set {p : List Int} {i j : Nat} (hi : i < p.length) (x : Int) : nth (p.set i x) j = if i = j then x else nth p j := by
 unfold nth
 rw [List.getD_eq_getElem?_getD, List.getElem?_set]
 by_cases e : i = j
 ·subst e; simp [hi]
 ·simp [e, List.getD_eq_getElem?_getD]
theorem ext_nthE {p q : List Int} (h : p.length = q.length) (hx : ∀ i, i < p.length → nth p i = nth q i) : p = q := by
 refine List.ext_getElem h (fun i h1 h2 => ?_)
 rw [← nth_lt h1, ← nth_lt h2]
 exact hx i h1
theorem swap_len (p : List Int) (i k : Nat) : (swapI p i k).length = p.length := by simp [swapI]
theorem nth_swap {p : List Int} {i k : Nat} (hi : i < p.length) (hk : k < p.length) (j : Nat) : nth (swapI p i k) j = if k = j then nth p i else if i = j then nth p k else nth p j := by
 unfold swapI
 rw [nth_set (by simpa using hk), nth_set hi]
/-- t pairs of the m numbers from o on swapped -/
def revN (p : List Int) (o m : Nat) : Nat → List Int
 | 0 => p
 | t + 1 => swapI (revN p o m t) (o + t) (o + (m - 1 - t))
theorem rev_len (p : List Int) (o m : Nat) : ∀ t, (revN p o m t).length = p.length
 | 0 => rfl
 | t + 1 => by simp only [revN]; rw [swap_len, rev_len]
theorem rev_at {p : List Int} {o m : Nat} (hm : o + m = p.length) : ∀ {t : Nat}, 2 * t ≤ m → ∀ j, j < m → nth (revN p o m t) (o + j) = if j < t ∨ m - 1 - j < t then nth p (o + (m - 1 - j)) else nth p (o + j)
 | 0, _, j, hj => by
  rw [if_neg (by omega)]
  rfl
 | t + 1, ht, j, hj => by
  simp only [revN]
  have hl := rev_len p o m t
  rw [nth_swap (by omega) (by omega), rev_at hm (by omega) t (by omega), rev_at hm (by omega) (m - 1 - t) (by omega), rev_at hm (by omega) j hj]
  by_cases e1 : o + (m - 1 - t) = o + j
  ·obtain rfl : j = m - 1 - t := by omega
   rw [if_pos rfl, if_neg (by omega), if_pos (by omega), show m - 1 - (m - 1 - t) = t by omega]
  ·rw [if_neg e1]
   by_cases e2 : o + t = o + j
   ·obtain rfl : j = t := by omega
    rw [if_pos rfl, if_neg (by omega), if_pos (by omega)]
   ·rw [if_neg e2]
    by_cases e3 : j < t ∨ m - 1 - j < t
    ·rw [if_pos e3, if_pos (by omega)]
    ·rw [if_neg e3, if_neg (by omega)]
theorem rev_low {p : List Int} {o m : Nat} (hm : o + m = p.length) : ∀ {t : Nat}, 2 * t ≤ m → ∀ j, j < o → nth (revN p o m t) j = nth p j
 | 0, _, j, _ => rfl
 | t + 1, ht, j, hj => by
  simp only [revN]
  have hl := rev_len p o m t
  rw [nth_swap (by omega) (by omega), if_neg (by omega), if_neg (by omega), rev_low hm (by omega) j hj]
theorem rev_all {p : List Int} {o m t : Nat} (hm : o + m = p.length) (h1 : 2 * t ≤ m) (h2 : m ≤ 2 * t + 1) : revN p o m t = p.take o ++ (p.drop o).reverse := by
 refine ext_nthE (by rw [rev_len]; simp; omega) (fun i hi => ?_)
 rw [rev_len] at hi
 have ht : (p.take o).length = o := by rw [List.length_take]; omega
 by_cases e : i < o
 ·rw [rev_low hm h1 i e]
  unfold nth
  rw [List.getD_eq_getElem?_getD, List.getD_eq_getElem?_getD, List.getElem?_append_left (by omega), List.getElem?_take, if_pos e]
 ·obtain ⟨j, rfl⟩ : ∃ j, i = o + j := ⟨i - o, by omega⟩
  have hj : j < m := by omega
  have hr : nth (p.take o ++ (p.drop o).reverse) (o + j) = nth p (o + (m - 1 - j)) := by
   unfold nth
   rw [List.getD_eq_getElem?_getD, List.getElem?_append_right (by omega), ht, show o + j - o = j by omega, List.getElem?_reverse (by rw [List.length_drop]; omega), List.getElem?_drop, List.length_drop, ← List.getD_eq_getElem?_getD]
   congr 1
   omega
  rw [hr, rev_at hm h1 j hj]
  split
  ·rfl
  ·rw [show m - 1 - j = j by omega]
theorem CellsN.lt' {w : World} {b : Nat} {c : Array Value} (h : CellsN w b c) (i : Nat) (hi : i < c.size) : ∃ u, w.cell? ⟨b, i, none⟩ = some u := ⟨c[i], by rw [h.cell]; simp [hi]⟩
theorem some_in {w : World} {b i : Nat} (h : ∃ u, w.cell? ⟨b, i, none⟩ = some u) : ∃ u, w.cell? ⟨b, i, none⟩ = some u := h
set_option maxHeartbeats 4000000 in
set_option maxRecDepth 100000 in
/-- slices.Reverse of the numbers from o on -/
theorem reverse_any (w : World) (g o m cap : Nat) (p : List Int) (h : CellsN w g (intsA p)) (hm : o + m = p.length) (hp : p.length ≤ 100000) (hcap : m ≤ cap) (hcap2 : cap ≤ 100000) :
  Calls Tryz.prog 50 #[.slice (some ⟨g, o, none⟩) m cap] w fun e w' => (∃ v, e = .returned v) ∧ CellsN w' g (intsA (p.take o ++ (p.drop o).reverse)) ∧ w.grownBy w' (some g) := by
 have HC := Lib.hid h
 have HM := Lib.hid hm
 clear h hm
 go_enter Tryz.func50, Tryz.ntmps50
 go_wp2
 go_loopw [2, 3] (fun i' j' wr => ∃ t : Nat, 2 * t ≤ m + 1 ∧ (2 * t ≤ m ∨ m = 0) ∧ i' = .int .i64 (t : Nat) ∧ j' = .int .i64 ((m : Int) - 1 - t) ∧ CellsN wr g (intsA (revN p o m t)) ∧ w.grownBy wr (some g)) (fun i' _ _ => m - (intOf i').toNat)
 case atStart => exact ⟨0, by omega, by omega, rfl, by go_num, HC.out, grown_refl _ _⟩
 case round =>
  obtain ⟨t, ht1, ht2, rfl, rfl, hcw, hgw⟩ := hrel
  have HCW := Lib.hid hcw
  have HGW := Lib.hid hgw
  clear hcw hgw
  by_cases hlt : 2 * t + 1 < m
  ·have hd : decide ((t : Int) < (m : Int) - 1 - t) = true := decide_eq_true (by omega)
   obtain ⟨k, hk⟩ : ∃ k, m - 1 - t = k := ⟨_, rfl⟩
   have hkm : (m : Int) - 1 - t = (k : Int) := by omega
   have HKM := Lib.hid hkm
   have htm : t < m := by omega
   have hkl : k < m := by omega
   have hdn : decide (t < k) = true := decide_eq_true (by omega)
   obtain ⟨C0, hC0⟩ : ∃ C, intsA (revN p o m t) = C := ⟨_, rfl⟩
   obtain ⟨xi, hxi⟩ : ∃ x, nth (revN p o m t) (o + t) = x := ⟨_, rfl⟩
   obtain ⟨xk, hxk⟩ : ∃ x, nth (revN p o m t) (o + k) = x := ⟨_, rfl⟩
   have HCI : Hid (C0[o + t]? = some (.int .i64 xi)) := Lib.hid (by rw [← hC0, ← hxi]; exact intsA_at (by rw [rev_len]; have := HM.out; omega))
   have HCK : Hid (C0[o + k]? = some (.int .i64 xk)) := Lib.hid (by rw [← hC0, ← hxk]; exact intsA_at (by rw [rev_len]; have := HM.out; omega))
   have HLI : Hid (o + t < C0.size) := Lib.hid (by rw [← hC0, intsA_size, rev_len]; have := HM.out; omega)
   have HLK : Hid (o + k < C0.size) := Lib.hid (by rw [← hC0, intsA_size, rev_len]; have := HM.out; omega)
   have HSW : Hid ((C0.setIfInBounds (o + t) (.int .i64 xk)).setIfInBounds (o + k) (.int .i64 xi) = intsA (revN p o m (t + 1))) := Lib.hid (by
    rw [← hC0, intsA_set, intsA_set]
    simp only [revN, swapI, hk, hxi, hxk])
   have HC0 : Hid (CellsN wr g C0) := Lib.hid (by rw [← hC0]; exact HCW.out)
   rw [hkm] at hd ⊢
   obtain ⟨WW, hWW⟩ : ∃ W, wr = W := ⟨_, rfl⟩
   rw [hWW] at HC0 HGW ⊢
   clear hC0 hxi hxk hk hkm hWW HCW
   go_wp2
   have HLIt := HLI
   obtain ⟨V, hV⟩ : ∃ V : List (Option Value), V = [some (.slice (some ⟨g, o, none⟩) m cap), some (.int .i64 (t : Nat)), some (.slice (some ⟨g, o, none⟩) m cap), some (.int .i64 (k : Nat)), some (.slice (some ⟨g, o, none⟩) m cap), some (.int .i64 (k : Nat)), some (.pointer (some ⟨g, o + k, none⟩)), some (.int .i64 xk), some (.slice (some ⟨g, o, none⟩) m cap), some (.int .i64 (t : Nat)), some (.pointer (some ⟨g, o + t, none⟩)), some (.int .i64 xi), some (.pointer (some ⟨g, o + t, none⟩)), none, some (.pointer (some ⟨g, o + k, none⟩)), none] := ⟨_, rfl⟩
   have HVV := Lib.hid hV
   clear hV
   refine wp_region_V [some 14, some 15, some 16, some 17, some 18, some 19, some 20, some 21, some 22, some 23, some 24, some 25, some 26, none, some 27, none] (fun L w' xs => ValsAt V L xs ∧ ((L 13 = false → CellsN w' g C0) ∧ (L 13 = true → L 15 = false → CellsN w' g (C0.setIfInBounds (o + t) (.int .i64 xk))) ∧ (L 15 = true → CellsN w' g ((C0.setIfInBounds (o + t) (.int .i64 xk)).setIfInBounds (o + k) (.int .i64 xi))) ∧ WW.grownBy w' (some g) ∧ (L 13 = true → L 7 = true ∧ L 11 = true) ∧ (L 15 = true → L 13 = true))) (by kernel_rfl) (by kernel_rfl) (by rfl) (by rfl) (by rfl) ?_ ?_ ?_
   focus
    exact fun xs => ⟨ValsAt.none _ _, (fun _ => HC0.out), (fun e => by cases e), (fun e => by cases e), grown_drew WW (some g), (fun e => by cases e), (fun e => by cases e)⟩
   focus
    refine ⟨?_, ?_, ?_, ?_, ?_, ?_, ?_, ?_, ?_, ?_, ?_, ?_, ?_, ?_, ?_, ?_, trivial⟩
    all_goals
     intro L a' w' xs hi hd hf hJ K hK
     obtain ⟨hv, h9⟩ := hJ
     have HF := Lib.hid hf
     have HVA := Lib.hid hv
     have HLI := Lib.hid hi
     clear hf hv hi
    focus
     clear hd
     obtain ⟨ρ, hρ⟩ : ∃ ρ, a'.eval = ρ := ⟨_, rfl⟩
     have hcst := cstE hρ
     have l0 : ρ (.tmp 0) = .slice (some ⟨g, o, none⟩) m cap := (congrFun hρ (.tmp 0)).symm.trans (HF.out.lo 0 rfl)
     rw [if_pos (by simp [Region.wanted])]
     unfold Oper.wp
     rw [hρ]
     clear hρ
     go_simp
     exact hK.out _ _ ⟨HVA.out.set (i := 0) (by rw [HVV.out]; rfl), (by exact h9)⟩
    focus
     clear hd
     obtain ⟨ρ, hρ⟩ : ∃ ρ, a'.eval = ρ := ⟨_, rfl⟩
     have hcst := cstE hρ
     have l2 : ρ (.tmp 2) = .int .i64 (t : Nat) := (congrFun hρ (.tmp 2)).symm.trans (HF.out.lo 2 rfl)
     rw [if_pos (by simp [Region.wanted])]
     unfold Oper.wp
     rw [hρ]
     clear hρ
     go_simp
     exact hK.out _ _ ⟨HVA.out.set (i := 1) (by rw [HVV.out]; rfl), (by exact h9)⟩
    focus
     clear hd
     obtain ⟨ρ, hρ⟩ : ∃ ρ, a'.eval = ρ := ⟨_, rfl⟩
     have hcst := cstE hρ
     have l0 : ρ (.tmp 0) = .slice (some ⟨g, o, none⟩) m cap := (congrFun hρ (.tmp 0)).symm.trans (HF.out.lo 0 rfl)
     rw [if_pos (by simp [Region.wanted])]
     unfold Oper.wp
     rw [hρ]
     clear hρ
     go_simp
     exact hK.out _ _ ⟨HVA.out.set (i := 2) (by rw [HVV.out]; rfl), (by exact h9)⟩
    focus
     clear hd
     obtain ⟨ρ, hρ⟩ : ∃ ρ, a'.eval = ρ := ⟨_, rfl⟩
     have hcst := cstE hρ
     have l3 : ρ (.tmp 3) = .int .i64 (k : Nat) := (congrFun hρ (.tmp 3)).symm.trans (HF.out.lo 3 rfl)
     rw [if_pos (by simp [Region.wanted])]
     unfold Oper.wp
     rw [hρ]
     clear hρ
     go_simp
     exact hK.out _ _ ⟨HVA.out.set (i := 3) (by rw [HVV.out]; rfl), (by exact h9)⟩
    focus
     clear hd
     obtain ⟨ρ, hρ⟩ : ∃ ρ, a'.eval = ρ := ⟨_, rfl⟩
     have hcst := cstE hρ
     have l0 : ρ (.tmp 0) = .slice (some ⟨g, o, none⟩) m cap := (congrFun hρ (.tmp 0)).symm.trans (HF.out.lo 0 rfl)
     rw [if_pos (by simp [Region.wanted])]
     unfold Oper.wp
     rw [hρ]
     clear hρ
     go_simp
     exact hK.out _ _ ⟨HVA.out.set (i := 4) (by rw [HVV.out]; rfl), (by exact h9)⟩
    focus
     clear hd
     obtain ⟨ρ, hρ⟩ : ∃ ρ, a'.eval = ρ := ⟨_, rfl⟩
     have hcst := cstE hρ
     have l3 : ρ (.tmp 3) = .int .i64 (k : Nat) := (congrFun hρ (.tmp 3)).symm.trans (HF.out.lo 3 rfl)
     rw [if_pos (by simp [Region.wanted])]
     unfold Oper.wp
     rw [hρ]
     clear hρ
     go_simp
     exact hK.out _ _ ⟨HVA.out.set (i := 5) (by rw [HVV.out]; rfl), (by exact h9)⟩
    focus
     obtain ⟨d4, d5, _⟩ := hd
     obtain ⟨ρ, hρ⟩ : ∃ ρ, a'.eval = ρ := ⟨_, rfl⟩
     have hcst := cstE hρ
     have v4 : ρ (.tmp 18) = .slice (some ⟨g, o, none⟩) m cap := (congrFun hρ (.tmp 18)).symm.trans ((HF.out.ev 4 rfl d4).trans (HVA.out 4 _ (by rw [HVV.out]; rfl) d4))
     have v5 : ρ (.tmp 19) = .int .i64 (k : Nat) := (congrFun hρ (.tmp 19)).symm.trans ((HF.out.ev 5 rfl d5).trans (HVA.out 5 _ (by rw [HVV.out]; rfl) d5))
     rw [if_pos (by simp [Region.wanted])]
     unfold Oper.wp
     rw [hρ]
     clear hρ
     go_simp
     exact hK.out _ _ ⟨HVA.out.set (i := 6) (by rw [HVV.out]; rfl), (by exact h9)⟩
    focus
     obtain ⟨d6, _⟩ := hd
     obtain ⟨ρ, hρ⟩ : ∃ ρ, a'.eval = ρ := ⟨_, rfl⟩
     have hcst := cstE hρ
     have v6 : ρ (.tmp 20) = .pointer (some ⟨g, o + k, none⟩) := (congrFun hρ (.tmp 20)).symm.trans ((HF.out.ev 6 rfl d6).trans (HVA.out 6 _ (by rw [HVV.out]; rfl) d6))
     have e13 : L 13 = false := by
      cases e : L 13 with
      | false => rfl
      | true => have := (h9.2.2.2.2.1 e).1; rw [HLI.out] at this; cases this
     have m0 := ((h9.1 e13).cell (o + k)).trans HCK.out
     rw [if_pos (by simp [Region.wanted])]
     unfold Oper.wp
     rw [hρ]
     clear hρ
     go_simp
     exact hK.out _ _ ⟨HVA.out.set (i := 7) (by rw [HVV.out]; rfl), ⟨h9.1, h9.2.1, h9.2.2.1, h9.2.2.2.1, (fun e => ⟨rfl, (h9.2.2.2.2.1 e).2⟩), h9.2.2.2.2.2⟩⟩
    focus
     clear hd
     obtain ⟨ρ, hρ⟩ : ∃ ρ, a'.eval = ρ := ⟨_, rfl⟩
     have hcst := cstE hρ
     have l0 : ρ (.tmp 0) = .slice (some ⟨g, o, none⟩) m cap := (congrFun hρ (.tmp 0)).symm.trans (HF.out.lo 0 rfl)
     rw [if_pos (by simp [Region.wanted])]
     unfold Oper.wp
     rw [hρ]
     clear hρ
     go_simp
     exact hK.out _ _ ⟨HVA.out.set (i := 8) (by rw [HVV.out]; rfl), (by exact h9)⟩
    focus
     clear hd
     obtain ⟨ρ, hρ⟩ : ∃ ρ, a'.eval = ρ := ⟨_, rfl⟩
     have hcst := cstE hρ
     have l2 : ρ (.tmp 2) = .int .i64 (t : Nat) := (congrFun hρ (.tmp 2)).symm.trans (HF.out.lo 2 rfl)
     rw [if_pos (by simp [Region.wanted])]
     unfold Oper.wp
     rw [hρ]
     clear hρ
     go_simp
     exact hK.out _ _ ⟨HVA.out.set (i := 9) (by rw [HVV.out]; rfl), (by exact h9)⟩
    focus
     obtain ⟨d8, d9, _⟩ := hd
     obtain ⟨ρ, hρ⟩ : ∃ ρ, a'.eval = ρ := ⟨_, rfl⟩
     have hcst := cstE hρ
     have v8 : ρ (.tmp 22) = .slice (some ⟨g, o, none⟩) m cap := (congrFun hρ (.tmp 22)).symm.trans ((HF.out.ev 8 rfl d8).trans (HVA.out 8 _ (by rw [HVV.out]; rfl) d8))
     have v9 : ρ (.tmp 23) = .int .i64 (t : Nat) := (congrFun hρ (.tmp 23)).symm.trans ((HF.out.ev 9 rfl d9).trans (HVA.out 9 _ (by rw [HVV.out]; rfl) d9))
     rw [if_pos (by simp [Region.wanted])]
     unfold Oper.wp
     rw [hρ]
     clear hρ
     go_simp
     exact hK.out _ _ ⟨HVA.out.set (i := 10) (by rw [HVV.out]; rfl), (by exact h9)⟩
    focus
     obtain ⟨d10, _⟩ := hd
     obtain ⟨ρ, hρ⟩ : ∃ ρ, a'.eval = ρ := ⟨_, rfl⟩
     have hcst := cstE hρ
     have v10 : ρ (.tmp 24) = .pointer (some ⟨g, o + t, none⟩) := (congrFun hρ (.tmp 24)).symm.trans ((HF.out.ev 10 rfl d10).trans (HVA.out 10 _ (by rw [HVV.out]; rfl) d10))
     have e13 : L 13 = false := by
      cases e : L 13 with
      | false => rfl
      | true => have := (h9.2.2.2.2.1 e).2; rw [HLI.out] at this; cases this
     have m0 := ((h9.1 e13).cell (o + t)).trans HCI.out
     rw [if_pos (by simp [Region.wanted])]
     unfold Oper.wp
     rw [hρ]
     clear hρ
     go_simp
     exact hK.out _ _ ⟨HVA.out.set (i := 11) (by rw [HVV.out]; rfl), ⟨h9.1, h9.2.1, h9.2.2.1, h9.2.2.2.1, (fun e => ⟨(h9.2.2.2.2.1 e).1, rfl⟩), h9.2.2.2.2.2⟩⟩
    focus
     obtain ⟨d0, d1, _, _, d4, d5, d6, d7, d11, _⟩ := hd
     obtain ⟨ρ, hρ⟩ : ∃ ρ, a'.eval = ρ := ⟨_, rfl⟩
     have hcst := cstE hρ
     have v0 : ρ (.tmp 14) = .slice (some ⟨g, o, none⟩) m cap := (congrFun hρ (.tmp 14)).symm.trans ((HF.out.ev 0 rfl d0).trans (HVA.out 0 _ (by rw [HVV.out]; rfl) d0))
     have v1 : ρ (.tmp 15) = .int .i64 (t : Nat) := (congrFun hρ (.tmp 15)).symm.trans ((HF.out.ev 1 rfl d1).trans (HVA.out 1 _ (by rw [HVV.out]; rfl) d1))
     rw [if_pos (by simp [Region.wanted])]
     unfold Oper.wp
     rw [hρ]
     clear hρ
     go_simp
     exact hK.out _ _ ⟨HVA.out.set (i := 12) (by rw [HVV.out]; rfl), (by exact h9)⟩
    focus
     obtain ⟨d12, d7, d0, d1, d4, d5, d6, _, d11, _⟩ := hd
     obtain ⟨ρ, hρ⟩ : ∃ ρ, a'.eval = ρ := ⟨_, rfl⟩
     have hcst := cstE hρ
     have v12 : ρ (.tmp 26) = .pointer (some ⟨g, o + t, none⟩) := (congrFun hρ (.tmp 26)).symm.trans ((HF.out.ev 12 rfl d12).trans (HVA.out 12 _ (by rw [HVV.out]; rfl) d12))
     have v7 : ρ (.tmp 21) = .int .i64 xk := (congrFun hρ (.tmp 21)).symm.trans ((HF.out.ev 7 rfl d7).trans (HVA.out 7 _ (by rw [HVV.out]; rfl) d7))
     rw [if_pos (by simp [Region.wanted])]
     unfold Oper.wp
     rw [hρ]
     clear hρ
     have e15 : L 15 = false := by
      cases e : L 15 with
      | false => rfl
      | true => have := h9.2.2.2.2.2 e; rw [HLI.out] at this; cases this
     have hcc := h9.1 HLI.out
     have fz := hcc.free (o + t)
     have m0 := (hcc.cell (o + t)).trans HCI.out
     have HST := Lib.hid (hcc.set (o + t) (.int .i64 xk))
     have HGG := Lib.hid (grown_trans h9.2.2.2.1 (grown_setCell w' ⟨g, o + t, none⟩ (.int .i64 xk)))
     clear hcc
     go_simp
     exact hK.out undef _ ⟨HVA.out.free (i := 13) (by rw [HVV.out]; rfl) _, (fun e => by cases e), (fun _ _ => HST.out), (fun e => by have e' : L 15 = true := e; rw [e15] at e'; cases e'), HGG.out, (fun _ => ⟨d7, d11⟩), (fun _ => rfl)⟩
    focus
     obtain ⟨d2, d3, d0, d1, _, _, d4, d5, d6, d7, d8, d9, d10, d11, d12, d13, _⟩ := hd
     obtain ⟨ρ, hρ⟩ : ∃ ρ, a'.eval = ρ := ⟨_, rfl⟩
     have hcst := cstE hρ
     have v2 : ρ (.tmp 16) = .slice (some ⟨g, o, none⟩) m cap := (congrFun hρ (.tmp 16)).symm.trans ((HF.out.ev 2 rfl d2).trans (HVA.out 2 _ (by rw [HVV.out]; rfl) d2))
     have v3 : ρ (.tmp 17) = .int .i64 (k : Nat) := (congrFun hρ (.tmp 17)).symm.trans ((HF.out.ev 3 rfl d3).trans (HVA.out 3 _ (by rw [HVV.out]; rfl) d3))
     rw [if_pos (by simp [Region.wanted])]
     unfold Oper.wp
     rw [hρ]
     clear hρ
     go_simp
     exact hK.out _ _ ⟨HVA.out.set (i := 14) (by rw [HVV.out]; rfl), (by exact h9)⟩
    focus
     obtain ⟨d14, d11, d13, d0, d1, d2, d3, d4, d5, d6, d7, d8, d9, d10, _, d12, _, _⟩ := hd
     obtain ⟨ρ, hρ⟩ : ∃ ρ, a'.eval = ρ := ⟨_, rfl⟩
     have hcst := cstE hρ
     have v14 : ρ (.tmp 27) = .pointer (some ⟨g, o + k, none⟩) := (congrFun hρ (.tmp 27)).symm.trans ((HF.out.ev 14 rfl d14).trans (HVA.out 14 _ (by rw [HVV.out]; rfl) d14))
     have v11 : ρ (.tmp 25) = .int .i64 xi := (congrFun hρ (.tmp 25)).symm.trans ((HF.out.ev 11 rfl d11).trans (HVA.out 11 _ (by rw [HVV.out]; rfl) d11))
     rw [if_pos (by simp [Region.wanted])]
     unfold Oper.wp
     rw [hρ]
     clear hρ
     have hcc := h9.2.1 d13 HLI.out
     have fz := hcc.free (o + k)
     have HIS := Lib.hid (some_in (i := o + k) (hcc.lt' (o + k) (by simp; exact HLK.out)))
     obtain ⟨yy, hyy⟩ := HIS.out
     have m0 := hyy
     have HST := Lib.hid (hcc.set (o + k) (.int .i64 xi))
     have HGG := Lib.hid (grown_trans h9.2.2.2.1 (grown_setCell w' ⟨g, o + k, none⟩ (.int .i64 xi)))
     clear hcc hyy
     go_simp
     exact hK.out undef _ ⟨HVA.out.free (i := 15) (by rw [HVV.out]; rfl) _, (fun e => by have e' : L 13 = false := e; rw [d13] at e'; cases e'), (fun _ e => by cases e), (fun _ => HST.out), HGG.out, (fun _ => ⟨d7, d11⟩), (fun _ => d13)⟩
   focus
    intro L w' xs hL hJ
    obtain ⟨hv, h9⟩ := hJ
    have e0 : xs 0 = .slice (some ⟨g, o, none⟩) m cap := hv 0 _ (by rw [HVV.out]; rfl) (hL 0 (by decide))
    have e1 : xs 1 = .int .i64 (t : Nat) := hv 1 _ (by rw [HVV.out]; rfl) (hL 1 (by decide))
    have e2 : xs 2 = .slice (some ⟨g, o, none⟩) m cap := hv 2 _ (by rw [HVV.out]; rfl) (hL 2 (by decide))
    have e3 : xs 3 = .int .i64 (k : Nat) := hv 3 _ (by rw [HVV.out]; rfl) (hL 3 (by decide))
    have e4 : xs 4 = .slice (some ⟨g, o, none⟩) m cap := hv 4 _ (by rw [HVV.out]; rfl) (hL 4 (by decide))
    have e5 : xs 5 = .int .i64 (k : Nat) := hv 5 _ (by rw [HVV.out]; rfl) (hL 5 (by decide))
    have e6 : xs 6 = .pointer (some ⟨g, o + k, none⟩) := hv 6 _ (by rw [HVV.out]; rfl) (hL 6 (by decide))
    have e7 : xs 7 = .int .i64 xk := hv 7 _ (by rw [HVV.out]; rfl) (hL 7 (by decide))
    have e8 : xs 8 = .slice (some ⟨g, o, none⟩) m cap := hv 8 _ (by rw [HVV.out]; rfl) (hL 8 (by decide))
    have e9 : xs 9 = .int .i64 (t : Nat) := hv 9 _ (by rw [HVV.out]; rfl) (hL 9 (by decide))
    have e10 : xs 10 = .pointer (some ⟨g, o + t, none⟩) := hv 10 _ (by rw [HVV.out]; rfl) (hL 10 (by decide))
    have e11 : xs 11 = .int .i64 xi := hv 11 _ (by rw [HVV.out]; rfl) (hL 11 (by decide))
    have e12 : xs 12 = .pointer (some ⟨g, o + t, none⟩) := hv 12 _ (by rw [HVV.out]; rfl) (hL 12 (by decide))
    have e14 : xs 14 = .pointer (some ⟨g, o + k, none⟩) := hv 14 _ (by rw [HVV.out]; rfl) (hL 14 (by decide))
    simp only [putGo, Act.put, List.setIfInBounds_toArray, List.set_cons_zero, List.set_cons_succ, e0, e1, e2, e3, e4, e5, e6, e7, e8, e9, e10, e11, e12, e14]
    clear hv e0 e1 e2 e3 e4 e5 e6 e7 e8 e9 e10 e11 e12 e14
   have HG9 := Lib.hid h9.2.2.2.1
   have HC9 := Lib.hid (h9.2.2.1 (hL 15 (by decide)))
   clear h9 hL
   go_wp2
   go_roundw
   case rel => exact ⟨t + 1, by omega, by omega, by go_num, by have := HKM.out; go_num, by rw [← HSW.out]; exact HC9.out, grown_trans HGW.out HG9.out⟩
   case measure => simp [intOf]; omega
  ·have hd : decide ((t : Int) < (m : Int) - 1 - t) = false := decide_eq_false (by omega)
   go_wp2
   go_end0
   refine ⟨⟨_, rfl⟩, ?_, HGW.out⟩
   rcases ht2 with ht2 | ht2
   ·rw [← rev_all HM.out ht2 (by omega)]
    exact HCW.out
   ·obtain rfl : t = 0 := by omega
    rw [← rev_all HM.out (t := 0) (by omega) (by omega)]
    exact HCW.out
end Go.Proofs.YteiaeaciaglmgaaGreat
namespace Go.Proofs.YteiaeaciaglmgaaGreat
open Go.RowKit
/-- what an iterator value promises: its n elements are handed to yield in order; D: the blocks that it leans on; what it hands over may say from which block on it lies -/
def IterS (P : Program) (gf : FuncId) (lb : Array Value) (n : Nat) (enc : Nat → Nat → World → Array Value → Prop) (D : Nat → Prop) (w : World) : Prop :=
 ∀ (l : Nat) (ob : Nat → Prop) (W : World) (J Jx : Nat → Nat → World → Prop),
  Turned (fun k => ¬ D k) w W → (∀ k, ob k → k < W.heap.size ∧ ¬ D k) →
  (∀ s i A B, W.heap.size ≤ s → J s i A → Turned (fun k => W.heap.size ≤ k ∧ k < s) A B → J s i B) →
  (∀ s i A B, W.heap.size ≤ s → Jx s i A → Turned (fun k => W.heap.size ≤ k ∧ k < s) A B → Jx s i B) →
  (∀ s W1, W.heap.size ≤ s → s ≤ W1.heap.size → Below W.heap.size W W1 → J s 0 W1) →
  (∀ s i W1 args, W.heap.size ≤ s → s ≤ W1.heap.size → i < n → J s i W1 → enc s i W1 args → YieldAt Fence.wide 9 P l args W1 fun e W' =>
   (e = .returned (.bool true) ∧ J s (i + 1) W' ∧ Turned (fun k => ob k ∨ s ≤ k) W1 W') ∨ (e = .returned (.bool false) ∧ Jx s i W' ∧ Turned (fun k => ob k ∨ s ≤ k) W1 W')) →
  CallsIn Fence.wide 10 P gf (#[.func (.yield l) #[] #[]] ++ lb) W fun e W' => (∃ v, e = .returned v) ∧ ∃ s, W.heap.size ≤ s ∧ s ≤ W'.heap.size ∧ (J s n W' ∨ ∃ i, i < n ∧ Jx s i W')
/-- the rule for a loop over a function -/
theorem range_lawS {P : Program} {g : Operand} {ps : Array Tmp} {assign body : Code} {Q : Exit → Act → World → Prop} {a : Act} {w : World}
  {gf : FuncId} {lb : Array Value} (hg : a.eval g = .func (.func gf) #[] lb) (eg : Enters P gf) {n : Nat} {enc : Nat → Nat → World → Array Value → Prop} {D : Nat → Prop} {w0 : World} (hseq : IterS P gf lb n enc D w0)
  (hw0 : Turned (fun k => ¬ D k) w0 w) (hD : ∀ k, D k → k < w0.heap.size) (ob : Nat → Prop) (hob : ∀ k, ob k → k < w.heap.size ∧ ¬ D k)
  (hps : ∀ s i W args, enc s i W args → args.size = ps.size)
  (I : Nat → Nat → World → Prop) (Ix : Code → Nat → Nat → World → Prop)
  (hI : ∀ s i A B, w.heap.size ≤ s → I s i A → Turned (fun k => w.heap.size ≤ k ∧ k < s) A B → I s i B)
  (hIx : ∀ c s i A B, w.heap.size ≤ s → Ix c s i A → Turned (fun k => w.heap.size ≤ k ∧ k < s) A B → Ix c s i B)
  (h0 : ∀ s W1, w.heap.size ≤ s → s ≤ W1.heap.size → Below w.heap.size w W1 → I s 0 W1)
  (hround : ∀ (l s i : Nat) (W : World) (args : Array Value), w.heap.size + 2 ≤ s → s ≤ W.heap.size → i < n → I s i W → enc s i W args →
   assign.wpIn (Fence.wide.inRound l) 9 P (Exit.then (fun a₁ W₁ => Below W.heap.size W W₁ ∧ ∀ W₂, Turned (fun k => w.heap.size ≤ k ∧ k < w.heap.size + 2) W₁ W₂ → body.wpIn (Fence.wide.inRound l) 9 P (rndPost ob I Ix s i W₂) a₁ W₂) (fun _ _ _ => False)) { tmps := (ps.zip args).foldl (fun t (p, v) => t.setIfInBounds p v) a.tmps, defers := [] } W)
  (hdone : ∀ (d s : Nat) (W : World), w.heap.size ≤ d → d < s → s ≤ W.heap.size → I s n W → W.heap[d]? = some (.deferred (some [])) → Q .normal { a with defers := { target := .collected d, args := #[] } :: a.defers } W)
  (hstop : ∀ (d s i : Nat) (c : Code) (W : World), w.heap.size ≤ d → d < s → s ≤ W.heap.size → i < n → Ix c s i W → W.heap[d]? = some (.deferred (some [])) → c.wpIn Fence.wide 11 P Q { a with defers := { target := .collected d, args := #[] } :: a.defers } W) :
  (Code.rangeFunc g ps assign body).wpIn Fence.wide 11 P Q a w := by
 refine wpIn_rangeFunc ?_
 intro fn hfn
 obtain ⟨rec, hrec⟩ : ∃ rec : LoopState → Option Code → Loop, rec = fun st pe => { state := st, pending := pe, fn, tmps := a.tmps, params := ps, assign, body, defers := w.heap.size } := ⟨_, rfl⟩
 obtain ⟨W1, hW1⟩ : ∃ W1, (w.alloc (.deferred (some []))).alloc (.loop (rec .ready none)) = W1 := ⟨_, rfl⟩
 have hL1 : W1.heap[w.heap.size + 1]? = some (.loop (rec .ready none)) := by
  rw [← hW1]; have := World.alloc_heap_new (w.alloc (.deferred (some []))) (.loop (rec .ready none)); rwa [World.size_alloc] at this
 have hK1 : W1.heap[w.heap.size]? = some (.deferred (some [])) := by
  rw [← hW1]; exact (Below.heap_alloc _ _ _ (by simp)).trans (World.alloc_heap_new w _)
 have hb1 : Below w.heap.size w W1 := by
  rw [← hW1]; exact ((Below.refl _ w).alloc (Nat.le_refl _) _).alloc (by simp) _
 have hs1 : W1.heap.size = w.heap.size + 2 := by rw [← hW1]; simp
 refine ⟨w.heap.size + 1, [{ target := .collected w.heap.size, args := #[] }], W1, { target := .fn (.func gf) lb, args := #[.func (.yield (w.heap.size + 1)) #[] #[]] }, W1, gf,
  #[.func (.yield (w.heap.size + 1)) #[] #[]] ++ lb, W1, ?_, ?_, ?_, ?_, fun _ => by omega, ?_⟩
 ·rw [← hW1, hrec]; exact run_enterLoop_outer _ _ _ _ _
 ·simp only [resolve, hg]
  simp [go_sem]
 ·intro f' _; trivial
 ·simp [invoke, go_sem]; exact eg _ _
 ·
  have stay : ∀ {s : Nat} {A B : World}, W1.heap.size ≤ s → Turned (fun k => W1.heap.size ≤ k ∧ k < s) A B → ∀ {k : Nat} {o : Obj}, k < w.heap.size + 2 → A.heap[k]? = some o → B.heap[k]? = some o := by
   intro s A B hs ht k o hk ho
   exact (ht.block k (Array.getElem?_eq_some_iff.1 ho).1 (by omega)).trans ho
  refine (hseq (w.heap.size + 1) (fun k => ob k ∨ k = w.heap.size ∨ k = w.heap.size + 1) W1
   (fun s i W => s ≤ W.heap.size ∧ I s i W ∧ W.heap[w.heap.size + 1]? = some (.loop (rec .ready none)) ∧ W.heap[w.heap.size]? = some (.deferred (some [])))
   (fun s i W => s ≤ W.heap.size ∧ ∃ c, Ix c s i W ∧ W.heap[w.heap.size + 1]? = some (.loop (rec .done (some c))) ∧ W.heap[w.heap.size]? = some (.deferred (some [])))
   (hw0.trans (Turned.of_below hb1))
   (fun k hk => by
    rcases hk with hk | rfl | rfl
    ·exact ⟨by have := (hob k hk).1; omega, (hob k hk).2⟩
    ·exact ⟨by omega, fun hd => by have := hD _ hd; have := hw0.size; omega⟩
    ·exact ⟨by omega, fun hd => by have := hD _ hd; have := hw0.size; omega⟩)
   (fun s i A B hs hj ht => ⟨Nat.le_trans hj.1 ht.size, hI s i A B (by omega) hj.2.1 (ht.mono fun k _ hk => ⟨by omega, hk.2⟩), stay hs ht (by omega) hj.2.2.1, stay hs ht (by omega) hj.2.2.2⟩)
   (fun s i A B hs hj ht => by
    obtain ⟨h, c, hc, hl, hk⟩ := hj
    exact ⟨Nat.le_trans h ht.size, c, hIx c s i A B (by omega) hc (ht.mono fun k _ hk => ⟨by omega, hk.2⟩), stay hs ht (by omega) hl, stay hs ht (by omega) hk⟩)
   (fun s W2 hs hs2 hb2 => ⟨hs2, h0 s W2 (by omega) hs2 (hb1.trans (hb2.mono hb1.size)), (hb2.block _ (by omega)).trans hL1, (hb2.block _ (by omega)).trans hK1⟩)
   ?_).mono ?_
  ·
   rintro s i W args hs hsW hi ⟨_, hiI, hl, hk⟩ hen
   have hlt : w.heap.size + 1 < W.heap.size := (Array.getElem?_eq_some_iff.1 hl).1
   have hy := run_yield (P := P) (args := args) hl (by rw [hrec]; exact hps s i W args hen)
   rw [hrec] at hy
   have hrd := hround (w.heap.size + 1) s i W args (by omega) hsW hi hiI hen
   refine ⟨fn, _, assign, body, hy, roundIn_of_wpIn hfn (wpIn_mono hrd ?_)⟩
   rintro e a2 W2 hq
   cases e with
   | normal =>
    obtain ⟨hb2, hbody⟩ := hq
    have hl2 := (hb2.block _ hlt).trans hl
    have hk2 := (hb2.block _ (by omega)).trans hk
    have hlt2 : w.heap.size + 1 < W2.heap.size := (Array.getElem?_eq_some_iff.1 hl2).1
    have hbz : Turned (fun k => w.heap.size ≤ k ∧ k < w.heap.size + 2) W2 (W2.putObj (w.heap.size + 1) (.loop { rec .ready none with state := .busy })) := Turned.putObj _ _ _ ⟨by omega, by omega⟩
    have hl3 : (W2.putObj (w.heap.size + 1) (.loop { rec .ready none with state := .busy })).heap[w.heap.size + 1]? = some (.loop { rec .ready none with state := .busy }) := World.putObj_heap_same hlt2
    have hk3 : (W2.putObj (w.heap.size + 1) (.loop { rec .ready none with state := .busy })).heap[w.heap.size]? = some (.deferred (some [])) := (World.putObj_heap_other (by omega)).trans hk2
    refine ⟨_, run_beginRound hl2 (by rw [hrec]), wpIn_mono (hbody _ hbz) ?_⟩
    have fin : ∀ (jump : Option Code) (W3 : World), Turned (fun k => ob k ∨ s ≤ k) (W2.putObj (w.heap.size + 1) (.loop { rec .ready none with state := .busy })) W3 →
      (Instr.endRound (w.heap.size + 1) jump).run P W3 = .ok (.bool jump.isNone) (W3.putObj (w.heap.size + 1) (.loop (rec (if jump.isNone then .ready else .done) jump))) ∧
      (W3.putObj (w.heap.size + 1) (.loop (rec (if jump.isNone then .ready else .done) jump))).heap[w.heap.size + 1]? = some (.loop (rec (if jump.isNone then .ready else .done) jump)) ∧
      (W3.putObj (w.heap.size + 1) (.loop (rec (if jump.isNone then .ready else .done) jump))).heap[w.heap.size]? = some (.deferred (some [])) ∧
      Turned (fun k => (ob k ∨ k = w.heap.size ∨ k = w.heap.size + 1) ∨ s ≤ k) W (W3.putObj (w.heap.size + 1) (.loop (rec (if jump.isNone then .ready else .done) jump))) ∧
      Turned (fun k => w.heap.size ≤ k ∧ k < s) W3 (W3.putObj (w.heap.size + 1) (.loop (rec (if jump.isNone then .ready else .done) jump))) ∧ s ≤ W3.heap.size := fun jump W3 ht => by
     have nob : ∀ {k : Nat}, w.heap.size ≤ k → ¬ ob k := fun hk hx => by have := (hob _ hx).1; omega
     have q1 := (ht.block _ (by simpa using hlt2) (by rintro (h | h); exact nob (by omega) h; omega)).trans hl3
     have q2 := (ht.block _ (by simp; omega) (by rintro (h | h); exact nob (by omega) h; omega)).trans hk3
     have := run_endRound (P := P) jump q1
     have hz3 := ht.size
     simp at hz3
     have hz2 := hb2.size
     rw [hrec] at this ⊢
     refine ⟨this, World.putObj_heap_same (Array.getElem?_eq_some_iff.1 q1).1, (World.putObj_heap_other (by omega)).trans q2, ?_, Turned.putObj _ _ _ ⟨by omega, by omega⟩, by omega⟩
     have t1 : Turned (fun k => (ob k ∨ k = w.heap.size ∨ k = w.heap.size + 1) ∨ s ≤ k) W W2 := Turned.of_below hb2
     have t2 : Turned (fun k => (ob k ∨ k = w.heap.size ∨ k = w.heap.size + 1) ∨ s ≤ k) W2 (W2.putObj (w.heap.size + 1) (.loop { rec .ready none with state := .busy })) := hbz.mono fun k _ hk => by omega
     have t3 : Turned (fun k => (ob k ∨ k = w.heap.size ∨ k = w.heap.size + 1) ∨ s ≤ k) (W2.putObj (w.heap.size + 1) (.loop { rec .ready none with state := .busy })) W3 := ht.mono fun k _ hk => by
      rcases hk with hk | hk
      ·exact Or.inl (Or.inl hk)
      ·exact Or.inr hk
     rw [hrec] at t2 t3
     exact t1.trans (t2.trans (t3.trans (Turned.putObj _ _ _ (by omega))))
    rintro e a3 W3 hp
    cases e with
    | normal =>
     obtain ⟨ht3, hi3⟩ := hp
     obtain ⟨hr, hl4, hk4, ht4, ht5, hs3⟩ := fin none W3 ht3
     exact ⟨_, _, hr, .inl ⟨rfl, ⟨by simpa using hs3, hI s (i + 1) _ _ (by omega) hi3 ht5, hl4, hk4⟩, ht4⟩⟩
    | ret =>
     obtain ⟨ht3, hi3⟩ := hp
     obtain ⟨hr, hl4, hk4, ht4, ht5, hs3⟩ := fin (some .ret) W3 ht3
     exact ⟨_, _, hr, .inr ⟨rfl, ⟨by simpa using hs3, .ret, hIx _ s i _ _ (by omega) hi3 ht5, hl4, hk4⟩, ht4⟩⟩
    | exit id =>
     obtain ⟨ht3, hi3⟩ := hp
     obtain ⟨hr, hl4, hk4, ht4, ht5, hs3⟩ := fin (some (.exit id)) W3 ht3
     exact ⟨_, _, hr, .inr ⟨rfl, ⟨by simpa using hs3, .exit id, hIx _ s i _ _ (by omega) hi3 ht5, hl4, hk4⟩, ht4⟩⟩
    | goto t =>
     obtain ⟨ht3, hi3⟩ := hp
     obtain ⟨hr, hl4, hk4, ht4, ht5, hs3⟩ := fin (some (.goto t)) W3 ht3
     exact ⟨_, _, hr, .inr ⟨rfl, ⟨by simpa using hs3, .goto t, hIx _ s i _ _ (by omega) hi3 ht5, hl4, hk4⟩, ht4⟩⟩
    | panic ch => exact hp.elim
    | outgrown => exact hp.elim
   | ret => exact hq
   | exit id => exact hq
   | goto t => exact hq
   | panic ch => exact hq
   | outgrown => exact hq
  ·
   rintro e W2 ⟨⟨v, rfl⟩, s, hs, hsW, (⟨_, hi, hl, hk⟩ | ⟨i, hin, _, c, hi, hl, hk⟩)⟩
   ·have ht : Turned (fun k => w.heap.size ≤ k ∧ k < s) W2 (W2.putObj (w.heap.size + 1) (.loop { rec .ready none with state := .exhausted })) := Turned.putObj _ _ _ ⟨by omega, by omega⟩
    exact ⟨none, _, by have := run_endLoop (P := P) hl (by rw [hrec]; simp); rw [hrec] at this; exact this, hdone _ s _ (Nat.le_refl _) (by omega) (by simpa using hsW) (hI s n _ _ (by omega) hi (by rw [hrec] at ht; exact ht)) ((World.putObj_heap_other (by omega)).trans hk)⟩
   ·have ht : Turned (fun k => w.heap.size ≤ k ∧ k < s) W2 (W2.putObj (w.heap.size + 1) (.loop { rec .done (some c) with state := .exhausted })) := Turned.putObj _ _ _ ⟨by omega, by omega⟩
    exact ⟨some c, _, by have := run_endLoop (P := P) hl (by rw [hrec]; simp); rw [hrec] at this; exact this, hstop _ s i c _ (Nat.le_refl _) (by omega) (by simpa using hsW) hin (hIx c s i _ _ (by omega) hi (by rw [hrec] at ht; exact ht)) ((World.putObj_heap_other (by omega)).trans hk)⟩
end Go.Proofs.YteiaeaciaglmgaaGreat
namespace Go.Proofs.YteiaeaciaglmgaaGreat
open Go.RowKit
attribute [local go_sem] Oper.semAt_some
theorem wpList_make_cells {ops : Array Oper} {rest : List Oper} {o : Oper} {a : Act} {w : World} {Q : Exit → Act → World → Prop} (hgd : o.guard = none) (l c : Operand) (hop : o.op = Op.makeSlice 25 l c)
  {m : Nat} (hl : a.eval l = .int .i64 (m : Int)) (hc : a.eval c = .int .i64 (m : Int)) (hm : m ≤ 100000)
  (h : wpList Tryz.prog ops Q rest (a.put o.dst (.slice (some ⟨w.heap.size, 0, none⟩) m m)) (w.alloc (.cells (intsA (List.replicate m 0)) 3))) : wpList Tryz.prog ops Q (o :: rest) a w := by
 obtain ⟨i0, hi, hz0, hz1, hz2⟩ := info_parts int_info
 refine wpList_plain hgd fun K hK => ?_
 have hr := run_make (P := Tryz.prog) w 25 3 i0 (.int .i64 0) Tryz.underlying25 hi hz0 .i64 .i64 m m (by omega) (by omega) (by rw [hz2]; omega) (by omega)
 simp only [Int.toNat_natCast, hz1, Nat.mul_one] at hr
 have hmc : madeCells (Value.int .i64 0).cells m = intsA (List.replicate m 0) := by
  apply Array.ext
  ·simp [madeCells, intsA]
  ·intro i h1 h2
   simp [madeCells, Value.cells, Nat.mod_one, intsA]
 unfold Oper.wp
 simp only [execOp, hop, hl, hc]
 simp [hr, Result.andThen]
 rw [hmc]
 exact hK _ _ h
/-- the first k numbers, then noughts -/
def fillL (n k : Nat) : List Int := (List.range k).map Int.ofNat ++ List.replicate (n - k) 0
theorem fill_len {n k : Nat} (h : k ≤ n) : (fillL n k).length = n := by simp [fillL]; omega
theorem fill_zero (n : Nat) : fillL n 0 = List.replicate n 0 := by simp [fillL]
theorem fill_all (n : Nat) : fillL n n = (List.range n).map Int.ofNat := by simp [fillL]
theorem fill_step {n k : Nat} (h : k < n) : (fillL n k).set k (k : Int) = fillL n (k + 1) := by
 unfold fillL
 have hl : ((List.range k).map Int.ofNat).length = k := by simp
 rw [List.set_append_right _ _ (by omega), hl, Nat.sub_self, show n - k = (n - (k + 1)) + 1 by omega, List.replicate_succ, List.set_cons_zero, List.range_succ, List.map_append, List.append_assoc]
 rfl
/-- the numbers of block g -/
def rdL (W : World) (g n : Nat) : List Int := (List.range n).map fun i => match W.cell? ⟨g, i, none⟩ with
 | some v => intOf v
 | none => 0
theorem rd_at {W : World} {g : Nat} {p : List Int} (h : CellsN W g (intsA p)) : rdL W g p.length = p := by
 unfold rdL
 refine List.ext_getElem (by simp) (fun i h1 h2 => ?_)
 rw [List.getElem_map, List.getElem_range]
 rw [h.cell i, intsA_at h2]
 simp [intOf, nth_lt h2]
theorem perm_idx {n j : Nat} (hj : j < (permsL n).length) : (permsL n).idxOf (rowAt (permsL n) j) = j := by
 have hs := permsL_srt n
 obtain ⟨i, hi⟩ : ∃ i, (permsL n).idxOf (rowAt (permsL n) j) = i := ⟨_, rfl⟩
 have hm := rowE_mem hj
 have hil : i < (permsL n).length := by rw [← hi]; exact List.idxOf_lt_length_iff.2 hm
 have he : rowAt (permsL n) i = rowAt (permsL n) j := by
  have h := List.getElem_idxOf (x := rowAt (permsL n) j) (xs := permsL n) (by rw [hi]; exact hil)
  unfold rowAt at h ⊢
  rw [List.getD_eq_getElem?_getD, List.getElem?_eq_getElem hil]
  simp only [Option.getD_some]
  rw [← h]
  congr 1
  exact hi.symm
 rw [hi]
 rcases Nat.lt_trichotomy i j with h | h | h
 ·have := srtE_at hs h hj
  rw [he, ltL_irrefl] at this
  cases this
 ·exact h
 ·have := srtE_at hs h hil
  rw [he, ltL_irrefl] at this
  cases this
def permLeft (n g : Nat) (W : World) : Nat := (permsL n).length - (permsL n).idxOf (rdL W g n)
theorem permLeft_at {n g j : Nat} {W : World} (hj : j < (permsL n).length) (h : CellsN W g (intsA (rowAt (permsL n) j))) : permLeft n g W = (permsL n).length - j := by
 unfold permLeft
 have hl : (rowAt (permsL n) j).length = n := (permB_parts (mem_permsL.1 (rowE_mem hj))).2.1
 have := rd_at h
 rw [hl] at this
 rw [this, perm_idx hj]
theorem ints_of {W : World} {g m cap : Nat} {p : List Int} (h : CellsN W g (intsA p)) (hm : m = p.length) (hc : m ≤ cap) (hc2 : cap ≤ 100000) (h64 : ∀ x ∈ p, I64 x) : IsInts W.heap.size W (.slice (some ⟨g, 0, none⟩) m cap) p := by
 subst hm
 exact ⟨g, 0, cap, ⟨_, rfl, hc, by omega, .inl rfl⟩, by omega, h64, fun j hj => ⟨h.lt, by rw [Nat.zero_add]; exact (h.cell j).trans (intsA_at hj)⟩⟩
theorem perm_64 {n : Nat} (hn : n ≤ 100000) {p : List Int} (h : p ∈ permsL n) : ∀ x ∈ p, I64 x := fun x hx => by
 have := (permB_parts (mem_permsL.1 h)).1 x hx
 unfold I64
 omega
set_option maxHeartbeats 4000000 in
set_option maxRecDepth 100000 in
/-- explain.permutations: the iterator -/
theorem eperms_iter (bn n : Nat) (w : World) (hn1 : 1 ≤ n) (hn : n ≤ 50000) (hx : Box w bn #[.int .i64 (n : Int)]) :
  IterS Tryz.prog 49 #[.pointer (some ⟨bn, 0, none⟩)] (permsL n).length (fun s i W args => ∃ v, args = #[v] ∧ OwnInts s W v (rowAt (permsL n) i)) (fun k => k = bn) w := by
 intro l ob W J Jx hwW hob hJ hJx hst hY
 have hxW := hx.turned hwW (fun h => h rfl)
 have HX := Lib.hid hxW
 have HOB := Lib.hid hob
 have HJ := Lib.hid hJ
 have HST := Lib.hid hst
 have HY := Lib.hid hY
 have r0 := hxW.2
 have hzx := hxW.1
 have hbg : bn ≠ W.heap.size := by omega
 clear hob hJ hJx hst hY hx hwW hxW
 refine callsIn_of_wp Tryz.func49 rfl trivial ?_ rfl
 refine wpIn_wide.2 ?_
 simp only [Tryz.ntmps49, List.size_toArray, List.length_cons, List.length_nil, Nat.reduceAdd, Nat.reduceSub, Array.replicate_succ, Array.replicate_zero, List.push_toArray, List.append_toArray, List.nil_append, List.cons_append]
 go_wp2_with (at_make; refine wpList_make_cells (m := n) rfl _ _ rfl rfl rfl (by omega) ?_)
 refine wp_name (fun W1 hW1 => ?_)
 have HC1 : Hid (CellsN W1 W.heap.size (intsA (fillL n 0))) := Lib.hid (by rw [hW1, fill_zero]; exact CellsN.new _ _ _)
 have HB1 : Hid (Below W.heap.size W W1) := Lib.hid (by rw [hW1]; exact box_below' _ _)
 obtain ⟨g, hg⟩ : ∃ x, W.heap.size = x := ⟨_, rfl⟩
 have HG := Lib.hid hg
 rw [hg] at HC1 hbg
 clear hW1 r0
 rw [hg]
 have hgB : g ≤ W.heap.size ∧ W.heap.size ≤ g := by omega
 clear hg
 go_loopw [11] (fun i' wr => ∃ k : Nat, k ≤ n ∧ i' = .int .i64 (k : Nat) ∧ CellsN wr g (intsA (fillL n k)) ∧ Below W.heap.size W wr) (fun i' _ => n - (intOf i').toNat)
 case atStart => exact ⟨0, by omega, rfl, HC1.out, HB1.out⟩
 case round =>
  obtain ⟨k, hk, rfl, hcw, hbw⟩ := hrel
  have HCW := Lib.hid hcw
  have HBW := Lib.hid hbw
  by_cases hkl : k < n
  ·have c1 := (hcw.cell k).trans (intsA_at (by rw [fill_len hk]; exact hkl))
   have fz := hcw.free k
   have HST := Lib.hid (hcw.set k (.int .i64 (k : Int)))
   rw [intsA_set, fill_step hkl] at HST
   have HBS := Lib.hid (hbw.setCell (p := ⟨g, k, none⟩) (by show W.heap.size ≤ g; omega) (.int .i64 (k : Int)))
   clear hcw hbw
   go_wp2
   go_roundw
   case rel => exact ⟨k + 1, by omega, by go_num, HST.out, HBS.out⟩
   case measure => simp [intOf]; omega
  ·obtain rfl : k = n := by omega
   rw [fill_all, ← perms_first] at HCW
   have HLP : Hid (0 < (permsL k).length) := Lib.hid (by rw [permsL_len]; exact facN_pos k)
   clear hcw hbw
   go_upto_region 6 with fail
   obtain ⟨w9, hw9⟩ : ∃ W, wr = W := ⟨_, rfl⟩
   rw [hw9] at HCW HBW ⊢
   clear hw9
   go_loopw [] (fun wr => ∃ j : Nat, j < (permsL k).length ∧ CellsN wr g (intsA (rowAt (permsL k) j)) ∧ J (W.heap.size + 1) j wr ∧ Box wr bn #[.int .i64 (k : Int)] ∧ W.heap.size + 1 ≤ wr.heap.size) (fun wr => permLeft k g wr)
   case atStart =>
    have h1 := HCW.out.lt
    exact ⟨0, HLP.out, HCW.out, HST.out _ _ (by omega) (by omega) HBW.out, HX.out.ext HBW.out, by omega⟩
   case round =>
    obtain ⟨j, hj, hcw, hjw, hbx, hsz⟩ := hrel
    have HCJ := Lib.hid hcw
    have HJJ := Lib.hid hjw
    have HBX := Lib.hid hbx
    have HSZ := Lib.hid hsz
    have hpm := rowE_mem hj
    have hpb := permB_parts (mem_permsL.1 hpm)
    have HPI := Lib.hid (ints_of (m := k) (cap := k) hcw hpb.2.1.symm (Nat.le_refl _) (by omega) (perm_64 (by omega) hpm))
    have HNX := Lib.hid (perms_next hj)
    have HML := Lib.hid (permLeft_at hj hcw)
    obtain ⟨p, hp⟩ : ∃ x, rowAt (permsL k) j = x := ⟨_, rfl⟩
    rw [hp] at HCJ HPI HNX hpb
    have HPE := Lib.hid hp
    have HPN := Lib.hid hpb.2.2
    have HPL := Lib.hid hpb.2.1
    clear hcw hjw hbx hsz hpm hpb hp
    refine (wpIn_wide (n := 10)).1 ?_
    have HPI2 : Hid (IsInts wr.heap.size wr (.slice (some ⟨g, 0, none⟩) p.length k) p) := Lib.hid (by rw [HPL.out]; exact HPI.out)
    have HCL := Lib.hid (clone_any wr.heap.size g 0 k wr p HPI2.out (Nat.le_refl _))
    rw [HPL.out] at HCL
    gi_wp2_with (refine ⟨trivial, ?_⟩; gi_at_call 45; refine (callsIn_wide.2 HCL.out).mono ?_; rintro e w5 ⟨v, rfl, ho5, hb5⟩; obtain ⟨a5, n5, c5, rfl⟩ := ho5.form'; have HB5 := Lib.hid hb5; have HYY := Lib.hid (HY.out (W.heap.size + 1) j w5 _ (by omega) (by have := HSZ.out; have := hb5.size; omega) hj (HJ.out _ _ _ _ (by omega) HJJ.out (Turned.of_below hb5)) ⟨_, rfl, by rw [HPE.out]; exact ho5.mono (by have := HSZ.out; omega)⟩); obtain ⟨fn, tmps, assign, body, hy, hR⟩ := HYY.out; have HR := Lib.hid hR; have h1 : Fence.wide.depth.isSome = true → 1 ≤ 10 := (fun _ => by omega); clear hR hb5 ho5)
    refine HR.out.mono ?_
    have HOW : Hid (∀ q, q = bn ∨ q = g → ¬ (ob q ∨ W.heap.size + 1 ≤ q)) := Lib.hid (fun q hq h => by
     rcases h with h | h
     ·have h2 := HOB.out q h
      rcases hq with e | e
      ·exact h2.2 e
      ·omega
     ·rcases hq with e | e <;> omega)
    have HC5 := Lib.hid (HCJ.out.ext HB5.out)
    have HX5 := Lib.hid (HBX.out.ext HB5.out)
    have HZ5 : Hid (W.heap.size + 1 ≤ w5.heap.size) := Lib.hid (by have := HSZ.out; have := HB5.out.size; omega)
    rintro e W' (⟨rfl, hJ', ht⟩ | ⟨rfl, hJx', ht⟩)
    ·have HJ4 := Lib.hid hJ'
     have HC4 := Lib.hid (HC5.out.turned ht (HOW.out _ (.inr rfl)))
     have HX4 := Lib.hid (HX5.out.turned ht (HOW.out _ (.inl rfl)))
     have HZ4 : Hid (W.heap.size + 1 ≤ W'.heap.size) := Lib.hid (Nat.le_trans HZ5.out ht.size)
     have x4 := HX4.out.2
     clear hJ' ht hy h1
     gi_wp2
     have hk1 : (k : Int) - 2 = ((k - 1 : Nat) : Int) - 1 := by omega
     rw [hk1]
     clear hk1 x4
     gi_loopw [5] (fun i' W2 => ∃ u : Nat, u ≤ k - 1 ∧ i' = .int .i64 ((u : Int) - 1) ∧ upI p u = upI p (k - 1) ∧ Below W'.heap.size W' W2) (fun i' _ => (intOf i' + 1).toNat)
     case atStart => exact ⟨k - 1, Nat.le_refl _, rfl, rfl, Below.refl _ _⟩
     case round =>
      obtain ⟨u, hu, rfl, hup, hbu⟩ := hrel
      have HBU := Lib.hid hbu
      have HUP := Lib.hid hup
      have HCU := Lib.hid (HC4.out.ext hbu)
      have xu := (HX4.out.ext hbu).2
      clear hbu hup
      cases u with
      | zero =>
       have hge : decide ((0 : Int) ≤ ((0 : Nat) : Int) - 1) = false := decide_eq_false (by omega)
       have hl0 : decide (((0 : Nat) : Int) - 1 < 0) = true := decide_eq_true (by omega)
       have HLAST : Hid (j + 1 = (permsL k).length) := Lib.hid (by
        have h1 := HNX.out.1
        have h2 := HUP.out
        simp only [upI] at h2
        rw [← h2] at h1
        have h3 : ¬ j + 1 < (permsL k).length := fun h => by have := h1.2 h; omega
        omega)
       have HJF : Hid (J (W.heap.size + 1) (j + 1) wr) := Lib.hid (HJ.out _ _ _ _ (by omega) HJ4.out (Turned.of_below HBU.out))
       have HZF := Lib.hid HBU.out.size
       refine wpIn_wide.2 ?_
       go_wp2
       go_quiet (fail)
       go_wp2
       gi_wp2
       refine bodyPost_ret (results_none rfl _ _ _) rfl ?_
       exact ⟨⟨_, rfl⟩, W.heap.size + 1, by omega, by have := HZ4.out; have := HZF.out; show _ ≤ wr.heap.size; omega, .inl (by rw [← HLAST.out]; exact HJ.out _ _ _ _ (by omega) HJF.out ⟨rfl, rfl, rfl, Nat.le_refl _, fun _ _ _ => rfl⟩)⟩
      | succ i =>
       rw [show ((i + 1 : Nat) : Int) - 1 = ((i : Nat) : Int) by omega]
       have hge : decide ((0 : Int) ≤ ((i : Nat) : Int)) = true := decide_eq_true (by omega)
       have c1 := (HCU.out.cell i).trans (intsA_at (by rw [HPL.out]; omega))
       have c2 := (HCU.out.cell (i + 1)).trans (intsA_at (by rw [HPL.out]; omega))
       have HUS : Hid (upI p (i + 1) = if nth p (i + 1) < nth p i then upI p i else i + 1) := Lib.hid rfl
       obtain ⟨xi, hxi⟩ : ∃ x, nth p i = x := ⟨_, rfl⟩
       obtain ⟨xj, hxj⟩ : ∃ x, nth p (i + 1) = x := ⟨_, rfl⟩
       rw [hxi, hxj] at HUS
       rw [hxi] at c1
       rw [hxj] at c2
       have HXI := Lib.hid hxi
       have HXJ := Lib.hid hxj
       have hik : i + 1 < k := by omega
       have hik' : i < k := by omega
       clear hxi hxj
       by_cases hgt : xj < xi
       ·have hd : decide (xj < xi) = true := decide_eq_true hgt
        rw [if_pos hgt] at HUS
        clear hgt
        refine wpIn_wide.2 ?_
        go_wp2
        go_quiet (fail)
        go_wp2
        go_roundw
        case rel => exact ⟨i, by omega, by go_num, by rw [← HUS.out]; exact HUP.out, HBU.out.trans (below_drewN (Below.refl _ _) _)⟩
        case measure => simp [intOf]
       ·have hd : decide (xj < xi) = false := decide_eq_false hgt
        have hl0 : decide ((i : Int) < 0) = false := decide_eq_false (by omega)
        rw [if_neg hgt] at HUS
        have HUE : Hid (upI p (k - 1) = i + 1) := Lib.hid (by rw [← HUP.out, HUS.out])
        have HGE := Lib.hid hgt
        clear hgt
        refine wpIn_wide.2 ?_
        go_wp2
        go_quiet (fail)
        go_wp2
        have hk2 : (k : Int) - 1 = ((k : Nat) : Int) - 1 := rfl
        have HCX := Lib.hid c1
        clear hd hge hik' c2
        gi_wp2
        clear xu
        gi_loopw [6] (fun k' W2 => ∃ v : Nat, i + 1 < v ∧ v ≤ k ∧ k' = .int .i64 ((v : Int) - 1) ∧ gtI p xi v = gtI p xi k ∧ Below wr.heap.size wr W2) (fun k' _ => (intOf k').toNat)
        case atStart => exact ⟨k, hik, Nat.le_refl _, rfl, rfl, below_drewN (Below.refl _ _) _⟩
        case round =>
         obtain ⟨v, hv1, hv2, rfl, hgv, hbv⟩ := hrel
         have HBV := Lib.hid hbv
         have HGV := Lib.hid hgv
         have HCV := Lib.hid (HCU.out.ext hbv)
         have HBX5 := Lib.hid ((HX4.out.ext HBU.out).ext hbv)
         clear hbv hgv
         obtain ⟨y, rfl⟩ : ∃ y, v = y + 1 := ⟨v - 1, by omega⟩
         rw [show ((y + 1 : Nat) : Int) - 1 = (y : Int) by omega]
         have c1 := (HCV.out.cell i).trans (intsA_at (by rw [HPL.out]; omega))
         have c2 := (HCV.out.cell y).trans (intsA_at (by rw [HPL.out]; omega))
         have HGS : Hid (gtI p xi (y + 1) = if nth p y < xi then gtI p xi y else y) := Lib.hid rfl
         obtain ⟨xk, hxk⟩ : ∃ x, nth p y = x := ⟨_, rfl⟩
         rw [hxk] at HGS c2
         rw [HXI.out] at c1
         have HXK := Lib.hid hxk
         have hyk : y < k := by omega
         clear hxk
         by_cases hlt2 : xk < xi
         ·have hd : decide (xk < xi) = true := decide_eq_true hlt2
          rw [if_pos hlt2] at HGS
          have hyi : y ≠ i + 1 := fun e => by
           have h1 := HXK.out
           have h2 := HXJ.out
           rw [e] at h1
           have h3 := HGE.out
           have h4 : nth p i ≠ nth p (i + 1) := fun e2 => by have := nth_injC HPN.out (by rw [HPL.out]; omega) (by rw [HPL.out]; omega) e2; omega
           rw [HXI.out, HXJ.out] at h4
           omega
          clear hlt2
          refine wpIn_wide.2 ?_
          go_wp2
          go_quiet (fail)
          go_wp2
          go_roundw
          case rel => exact ⟨y, by omega, by omega, by go_num, by rw [← HGS.out]; exact HGV.out, HBV.out.trans (below_drewN (Below.refl _ _) _)⟩
          case measure => simp [intOf]; omega
         ·have hd : decide (xk < xi) = false := decide_eq_false hlt2
          rw [if_neg hlt2] at HGS
          have HGY : Hid (gtI p xi k = y) := Lib.hid (by rw [← HGV.out, HGS.out])
          clear hlt2
          refine wpIn_wide.2 ?_
          go_wp2
          go_quiet (fail)
          go_wp2
          gi_wp2
          refine wpIn_wide.2 ?_
          refine wp_name (fun WW hWW => ?_)
          have HWB : Hid (Below wr.heap.size wr WW) := Lib.hid (by rw [hWW]; exact below_drewN (Below.refl _ _) _)
          obtain ⟨C0, hC0⟩ : ∃ C, intsA p = C := ⟨_, rfl⟩
          have HC0 : Hid (CellsN WW g C0) := Lib.hid (by rw [← hC0]; exact HCV.out.ext HWB.out)
          have HCI : Hid (C0[i]? = some (.int .i64 xi)) := Lib.hid (by rw [← hC0, ← HXI.out]; exact intsA_at (by rw [HPL.out]; omega))
          have HCK : Hid (C0[y]? = some (.int .i64 xk)) := Lib.hid (by rw [← hC0, ← HXK.out]; exact intsA_at (by rw [HPL.out]; omega))
          have HLI : Hid (i < C0.size) := Lib.hid (by rw [← hC0, intsA_size, HPL.out]; omega)
          have HLK : Hid (y < C0.size) := Lib.hid (by rw [← hC0, intsA_size, HPL.out]; omega)
          have HSW : Hid ((C0.setIfInBounds i (.int .i64 xk)).setIfInBounds y (.int .i64 xi) = intsA (swapI p i y)) := Lib.hid (by
           rw [← hC0, intsA_set, intsA_set]
           simp only [swapI, HXI.out, HXK.out])
          have hik3 : i < k := by omega
          clear hC0 hWW c1 c2 hd
          obtain ⟨V, hV⟩ : ∃ V : List (Option Value), V = [some (.slice (some ⟨g, 0, none⟩) k k), some (.int .i64 (i : Nat)), some (.slice (some ⟨g, 0, none⟩) k k), some (.int .i64 (y : Nat)), some (.slice (some ⟨g, 0, none⟩) k k), some (.int .i64 (y : Nat)), some (.pointer (some ⟨g, y, none⟩)), some (.int .i64 xk), some (.slice (some ⟨g, 0, none⟩) k k), some (.int .i64 (i : Nat)), some (.pointer (some ⟨g, i, none⟩)), some (.int .i64 xi), some (.pointer (some ⟨g, i, none⟩)), none, some (.pointer (some ⟨g, y, none⟩)), none] := ⟨_, rfl⟩
          have HVV := Lib.hid hV
          clear hV
          refine wp_region_V [some 56, some 57, some 58, some 59, some 60, some 61, some 62, some 63, some 64, some 65, some 66, some 67, some 68, none, some 69, none] (fun L w' xs => ValsAt V L xs ∧ ((L 13 = false → CellsN w' g C0) ∧ (L 13 = true → L 15 = false → CellsN w' g (C0.setIfInBounds (i) (.int .i64 xk))) ∧ (L 15 = true → CellsN w' g ((C0.setIfInBounds (i) (.int .i64 xk)).setIfInBounds (y) (.int .i64 xi))) ∧ WW.grownBy w' (some g) ∧ (L 13 = true → L 7 = true ∧ L 11 = true) ∧ (L 15 = true → L 13 = true))) (by kernel_rfl) (by kernel_rfl) (by rfl) (by rfl) (by rfl) ?_ ?_ ?_
          focus
           exact fun xs => ⟨ValsAt.none _ _, (fun _ => HC0.out), (fun e => by cases e), (fun e => by cases e), grown_drew WW (some g), (fun e => by cases e), (fun e => by cases e)⟩
          focus
           refine ⟨?_, ?_, ?_, ?_, ?_, ?_, ?_, ?_, ?_, ?_, ?_, ?_, ?_, ?_, ?_, ?_, trivial⟩
           all_goals
            intro L a' w' xs hi hd hf hJ K hK
            obtain ⟨hv, h9⟩ := hJ
            have HF := Lib.hid hf
            have HVA := Lib.hid hv
            have HLI := Lib.hid hi
            clear hf hv hi
           focus
            clear hd
            obtain ⟨ρ, hρ⟩ : ∃ ρ, a'.eval = ρ := ⟨_, rfl⟩
            have hcst := cstE hρ
            have l3 : ρ (.tmp 3) = .slice (some ⟨g, 0, none⟩) k k := (congrFun hρ (.tmp 3)).symm.trans (HF.out.lo 3 rfl)
            rw [if_pos (by simp [Region.wanted])]
            unfold Oper.wp
            rw [hρ]
            clear hρ
            go_simp
            exact hK.out _ _ ⟨HVA.out.set (i := 0) (by rw [HVV.out]; rfl), (by exact h9)⟩
           focus
            clear hd
            obtain ⟨ρ, hρ⟩ : ∃ ρ, a'.eval = ρ := ⟨_, rfl⟩
            have hcst := cstE hρ
            have l5 : ρ (.tmp 5) = .int .i64 (i : Nat) := (congrFun hρ (.tmp 5)).symm.trans (HF.out.lo 5 rfl)
            rw [if_pos (by simp [Region.wanted])]
            unfold Oper.wp
            rw [hρ]
            clear hρ
            go_simp
            exact hK.out _ _ ⟨HVA.out.set (i := 1) (by rw [HVV.out]; rfl), (by exact h9)⟩
           focus
            clear hd
            obtain ⟨ρ, hρ⟩ : ∃ ρ, a'.eval = ρ := ⟨_, rfl⟩
            have hcst := cstE hρ
            have l3 : ρ (.tmp 3) = .slice (some ⟨g, 0, none⟩) k k := (congrFun hρ (.tmp 3)).symm.trans (HF.out.lo 3 rfl)
            rw [if_pos (by simp [Region.wanted])]
            unfold Oper.wp
            rw [hρ]
            clear hρ
            go_simp
            exact hK.out _ _ ⟨HVA.out.set (i := 2) (by rw [HVV.out]; rfl), (by exact h9)⟩
           focus
            clear hd
            obtain ⟨ρ, hρ⟩ : ∃ ρ, a'.eval = ρ := ⟨_, rfl⟩
            have hcst := cstE hρ
            have l6 : ρ (.tmp 6) = .int .i64 (y : Nat) := (congrFun hρ (.tmp 6)).symm.trans (HF.out.lo 6 rfl)
            rw [if_pos (by simp [Region.wanted])]
            unfold Oper.wp
            rw [hρ]
            clear hρ
            go_simp
            exact hK.out _ _ ⟨HVA.out.set (i := 3) (by rw [HVV.out]; rfl), (by exact h9)⟩
           focus
            clear hd
            obtain ⟨ρ, hρ⟩ : ∃ ρ, a'.eval = ρ := ⟨_, rfl⟩
            have hcst := cstE hρ
            have l3 : ρ (.tmp 3) = .slice (some ⟨g, 0, none⟩) k k := (congrFun hρ (.tmp 3)).symm.trans (HF.out.lo 3 rfl)
            rw [if_pos (by simp [Region.wanted])]
            unfold Oper.wp
            rw [hρ]
            clear hρ
            go_simp
            exact hK.out _ _ ⟨HVA.out.set (i := 4) (by rw [HVV.out]; rfl), (by exact h9)⟩
           focus
            clear hd
            obtain ⟨ρ, hρ⟩ : ∃ ρ, a'.eval = ρ := ⟨_, rfl⟩
            have hcst := cstE hρ
            have l6 : ρ (.tmp 6) = .int .i64 (y : Nat) := (congrFun hρ (.tmp 6)).symm.trans (HF.out.lo 6 rfl)
            rw [if_pos (by simp [Region.wanted])]
            unfold Oper.wp
            rw [hρ]
            clear hρ
            go_simp
            exact hK.out _ _ ⟨HVA.out.set (i := 5) (by rw [HVV.out]; rfl), (by exact h9)⟩
           focus
            obtain ⟨d4, d5, _⟩ := hd
            obtain ⟨ρ, hρ⟩ : ∃ ρ, a'.eval = ρ := ⟨_, rfl⟩
            have hcst := cstE hρ
            have v4 : ρ (.tmp 60) = .slice (some ⟨g, 0, none⟩) k k := (congrFun hρ (.tmp 60)).symm.trans ((HF.out.ev 4 rfl d4).trans (HVA.out 4 _ (by rw [HVV.out]; rfl) d4))
            have v5 : ρ (.tmp 61) = .int .i64 (y : Nat) := (congrFun hρ (.tmp 61)).symm.trans ((HF.out.ev 5 rfl d5).trans (HVA.out 5 _ (by rw [HVV.out]; rfl) d5))
            rw [if_pos (by simp [Region.wanted])]
            unfold Oper.wp
            rw [hρ]
            clear hρ
            go_simp
            exact hK.out _ _ ⟨HVA.out.set (i := 6) (by rw [HVV.out]; rfl), (by exact h9)⟩
           focus
            obtain ⟨d6, _⟩ := hd
            obtain ⟨ρ, hρ⟩ : ∃ ρ, a'.eval = ρ := ⟨_, rfl⟩
            have hcst := cstE hρ
            have v6 : ρ (.tmp 62) = .pointer (some ⟨g, y, none⟩) := (congrFun hρ (.tmp 62)).symm.trans ((HF.out.ev 6 rfl d6).trans (HVA.out 6 _ (by rw [HVV.out]; rfl) d6))
            have e13 : L 13 = false := by
             cases e : L 13 with
             | false => rfl
             | true => have := (h9.2.2.2.2.1 e).1; rw [HLI.out] at this; cases this
            have m0 := ((h9.1 e13).cell (y)).trans HCK.out
            rw [if_pos (by simp [Region.wanted])]
            unfold Oper.wp
            rw [hρ]
            clear hρ
            go_simp
            exact hK.out _ _ ⟨HVA.out.set (i := 7) (by rw [HVV.out]; rfl), ⟨h9.1, h9.2.1, h9.2.2.1, h9.2.2.2.1, (fun e => ⟨rfl, (h9.2.2.2.2.1 e).2⟩), h9.2.2.2.2.2⟩⟩
           focus
            clear hd
            obtain ⟨ρ, hρ⟩ : ∃ ρ, a'.eval = ρ := ⟨_, rfl⟩
            have hcst := cstE hρ
            have l3 : ρ (.tmp 3) = .slice (some ⟨g, 0, none⟩) k k := (congrFun hρ (.tmp 3)).symm.trans (HF.out.lo 3 rfl)
            rw [if_pos (by simp [Region.wanted])]
            unfold Oper.wp
            rw [hρ]
            clear hρ
            go_simp
            exact hK.out _ _ ⟨HVA.out.set (i := 8) (by rw [HVV.out]; rfl), (by exact h9)⟩
           focus
            clear hd
            obtain ⟨ρ, hρ⟩ : ∃ ρ, a'.eval = ρ := ⟨_, rfl⟩
            have hcst := cstE hρ
            have l5 : ρ (.tmp 5) = .int .i64 (i : Nat) := (congrFun hρ (.tmp 5)).symm.trans (HF.out.lo 5 rfl)
            rw [if_pos (by simp [Region.wanted])]
            unfold Oper.wp
            rw [hρ]
            clear hρ
            go_simp
            exact hK.out _ _ ⟨HVA.out.set (i := 9) (by rw [HVV.out]; rfl), (by exact h9)⟩
           focus
            obtain ⟨d8, d9, _⟩ := hd
            obtain ⟨ρ, hρ⟩ : ∃ ρ, a'.eval = ρ := ⟨_, rfl⟩
            have hcst := cstE hρ
            have v8 : ρ (.tmp 64) = .slice (some ⟨g, 0, none⟩) k k := (congrFun hρ (.tmp 64)).symm.trans ((HF.out.ev 8 rfl d8).trans (HVA.out 8 _ (by rw [HVV.out]; rfl) d8))
            have v9 : ρ (.tmp 65) = .int .i64 (i : Nat) := (congrFun hρ (.tmp 65)).symm.trans ((HF.out.ev 9 rfl d9).trans (HVA.out 9 _ (by rw [HVV.out]; rfl) d9))
            rw [if_pos (by simp [Region.wanted])]
            unfold Oper.wp
            rw [hρ]
            clear hρ
            go_simp
            exact hK.out _ _ ⟨HVA.out.set (i := 10) (by rw [HVV.out]; rfl), (by exact h9)⟩
           focus
            obtain ⟨d10, _⟩ := hd
            obtain ⟨ρ, hρ⟩ : ∃ ρ, a'.eval = ρ := ⟨_, rfl⟩
            have hcst := cstE hρ
            have v10 : ρ (.tmp 66) = .pointer (some ⟨g, i, none⟩) := (congrFun hρ (.tmp 66)).symm.trans ((HF.out.ev 10 rfl d10).trans (HVA.out 10 _ (by rw [HVV.out]; rfl) d10))
            have e13 : L 13 = false := by
             cases e : L 13 with
             | false => rfl
             | true => have := (h9.2.2.2.2.1 e).2; rw [HLI.out] at this; cases this
            have m0 := ((h9.1 e13).cell (i)).trans HCI.out
            rw [if_pos (by simp [Region.wanted])]
            unfold Oper.wp
            rw [hρ]
            clear hρ
            go_simp
            exact hK.out _ _ ⟨HVA.out.set (i := 11) (by rw [HVV.out]; rfl), ⟨h9.1, h9.2.1, h9.2.2.1, h9.2.2.2.1, (fun e => ⟨(h9.2.2.2.2.1 e).1, rfl⟩), h9.2.2.2.2.2⟩⟩
           focus
            obtain ⟨d0, d1, _, _, d4, d5, d6, d7, d11, _⟩ := hd
            obtain ⟨ρ, hρ⟩ : ∃ ρ, a'.eval = ρ := ⟨_, rfl⟩
            have hcst := cstE hρ
            have v0 : ρ (.tmp 56) = .slice (some ⟨g, 0, none⟩) k k := (congrFun hρ (.tmp 56)).symm.trans ((HF.out.ev 0 rfl d0).trans (HVA.out 0 _ (by rw [HVV.out]; rfl) d0))
            have v1 : ρ (.tmp 57) = .int .i64 (i : Nat) := (congrFun hρ (.tmp 57)).symm.trans ((HF.out.ev 1 rfl d1).trans (HVA.out 1 _ (by rw [HVV.out]; rfl) d1))
            rw [if_pos (by simp [Region.wanted])]
            unfold Oper.wp
            rw [hρ]
            clear hρ
            go_simp
            exact hK.out _ _ ⟨HVA.out.set (i := 12) (by rw [HVV.out]; rfl), (by exact h9)⟩
           focus
            obtain ⟨d12, d7, d0, d1, d4, d5, d6, _, d11, _⟩ := hd
            obtain ⟨ρ, hρ⟩ : ∃ ρ, a'.eval = ρ := ⟨_, rfl⟩
            have hcst := cstE hρ
            have v12 : ρ (.tmp 68) = .pointer (some ⟨g, i, none⟩) := (congrFun hρ (.tmp 68)).symm.trans ((HF.out.ev 12 rfl d12).trans (HVA.out 12 _ (by rw [HVV.out]; rfl) d12))
            have v7 : ρ (.tmp 63) = .int .i64 xk := (congrFun hρ (.tmp 63)).symm.trans ((HF.out.ev 7 rfl d7).trans (HVA.out 7 _ (by rw [HVV.out]; rfl) d7))
            rw [if_pos (by simp [Region.wanted])]
            unfold Oper.wp
            rw [hρ]
            clear hρ
            have e15 : L 15 = false := by
             cases e : L 15 with
             | false => rfl
             | true => have := h9.2.2.2.2.2 e; rw [HLI.out] at this; cases this
            have hcc := h9.1 HLI.out
            have fz := hcc.free (i)
            have m0 := (hcc.cell (i)).trans HCI.out
            have HST := Lib.hid (hcc.set (i) (.int .i64 xk))
            have HGG := Lib.hid (grown_trans h9.2.2.2.1 (grown_setCell w' ⟨g, i, none⟩ (.int .i64 xk)))
            clear hcc
            go_simp
            exact hK.out undef _ ⟨HVA.out.free (i := 13) (by rw [HVV.out]; rfl) _, (fun e => by cases e), (fun _ _ => HST.out), (fun e => by have e' : L 15 = true := e; rw [e15] at e'; cases e'), HGG.out, (fun _ => ⟨d7, d11⟩), (fun _ => rfl)⟩
           focus
            obtain ⟨d2, d3, d0, d1, _, _, d4, d5, d6, d7, d8, d9, d10, d11, d12, d13, _⟩ := hd
            obtain ⟨ρ, hρ⟩ : ∃ ρ, a'.eval = ρ := ⟨_, rfl⟩
            have hcst := cstE hρ
            have v2 : ρ (.tmp 58) = .slice (some ⟨g, 0, none⟩) k k := (congrFun hρ (.tmp 58)).symm.trans ((HF.out.ev 2 rfl d2).trans (HVA.out 2 _ (by rw [HVV.out]; rfl) d2))
            have v3 : ρ (.tmp 59) = .int .i64 (y : Nat) := (congrFun hρ (.tmp 59)).symm.trans ((HF.out.ev 3 rfl d3).trans (HVA.out 3 _ (by rw [HVV.out]; rfl) d3))
            rw [if_pos (by simp [Region.wanted])]
            unfold Oper.wp
            rw [hρ]
            clear hρ
            go_simp
            exact hK.out _ _ ⟨HVA.out.set (i := 14) (by rw [HVV.out]; rfl), (by exact h9)⟩
           focus
            obtain ⟨d14, d11, d13, d0, d1, d2, d3, d4, d5, d6, d7, d8, d9, d10, _, d12, _, _⟩ := hd
            obtain ⟨ρ, hρ⟩ : ∃ ρ, a'.eval = ρ := ⟨_, rfl⟩
            have hcst := cstE hρ
            have v14 : ρ (.tmp 69) = .pointer (some ⟨g, y, none⟩) := (congrFun hρ (.tmp 69)).symm.trans ((HF.out.ev 14 rfl d14).trans (HVA.out 14 _ (by rw [HVV.out]; rfl) d14))
            have v11 : ρ (.tmp 67) = .int .i64 xi := (congrFun hρ (.tmp 67)).symm.trans ((HF.out.ev 11 rfl d11).trans (HVA.out 11 _ (by rw [HVV.out]; rfl) d11))
            rw [if_pos (by simp [Region.wanted])]
            unfold Oper.wp
            rw [hρ]
            clear hρ
            have hcc := h9.2.1 d13 HLI.out
            have fz := hcc.free (y)
            have HIS := Lib.hid (some_in (i := y) (hcc.lt' (y) (by simp; exact HLK.out)))
            obtain ⟨yy, hyy⟩ := HIS.out
            have m0 := hyy
            have HST := Lib.hid (hcc.set (y) (.int .i64 xi))
            have HGG := Lib.hid (grown_trans h9.2.2.2.1 (grown_setCell w' ⟨g, y, none⟩ (.int .i64 xi)))
            clear hcc hyy
            go_simp
            exact hK.out undef _ ⟨HVA.out.free (i := 15) (by rw [HVV.out]; rfl) _, (fun e => by have e' : L 13 = false := e; rw [d13] at e'; cases e'), (fun _ e => by cases e), (fun _ => HST.out), HGG.out, (fun _ => ⟨d7, d11⟩), (fun _ => d13)⟩
          focus
           intro L w' xs hL hJ
           obtain ⟨hv, h9⟩ := hJ
           have e0 : xs 0 = .slice (some ⟨g, 0, none⟩) k k := hv 0 _ (by rw [HVV.out]; rfl) (hL 0 (by decide))
           have e1 : xs 1 = .int .i64 (i : Nat) := hv 1 _ (by rw [HVV.out]; rfl) (hL 1 (by decide))
           have e2 : xs 2 = .slice (some ⟨g, 0, none⟩) k k := hv 2 _ (by rw [HVV.out]; rfl) (hL 2 (by decide))
           have e3 : xs 3 = .int .i64 (y : Nat) := hv 3 _ (by rw [HVV.out]; rfl) (hL 3 (by decide))
           have e4 : xs 4 = .slice (some ⟨g, 0, none⟩) k k := hv 4 _ (by rw [HVV.out]; rfl) (hL 4 (by decide))
           have e5 : xs 5 = .int .i64 (y : Nat) := hv 5 _ (by rw [HVV.out]; rfl) (hL 5 (by decide))
           have e6 : xs 6 = .pointer (some ⟨g, y, none⟩) := hv 6 _ (by rw [HVV.out]; rfl) (hL 6 (by decide))
           have e7 : xs 7 = .int .i64 xk := hv 7 _ (by rw [HVV.out]; rfl) (hL 7 (by decide))
           have e8 : xs 8 = .slice (some ⟨g, 0, none⟩) k k := hv 8 _ (by rw [HVV.out]; rfl) (hL 8 (by decide))
           have e9 : xs 9 = .int .i64 (i : Nat) := hv 9 _ (by rw [HVV.out]; rfl) (hL 9 (by decide))
           have e10 : xs 10 = .pointer (some ⟨g, i, none⟩) := hv 10 _ (by rw [HVV.out]; rfl) (hL 10 (by decide))
           have e11 : xs 11 = .int .i64 xi := hv 11 _ (by rw [HVV.out]; rfl) (hL 11 (by decide))
           have e12 : xs 12 = .pointer (some ⟨g, i, none⟩) := hv 12 _ (by rw [HVV.out]; rfl) (hL 12 (by decide))
           have e14 : xs 14 = .pointer (some ⟨g, y, none⟩) := hv 14 _ (by rw [HVV.out]; rfl) (hL 14 (by decide))
           simp only [putGo, Act.put, List.setIfInBounds_toArray, List.set_cons_zero, List.set_cons_succ, e0, e1, e2, e3, e4, e5, e6, e7, e8, e9, e10, e11, e12, e14]
           clear hv e0 e1 e2 e3 e4 e5 e6 e7 e8 e9 e10 e11 e12 e14
          have HG9 := Lib.hid h9.2.2.2.1
          have HC9 : Hid (CellsN w' g (intsA (swapI p i y))) := Lib.hid (by rw [← HSW.out]; exact h9.2.2.1 (hL 15 (by decide)))
          clear h9 hL
          have HBX9 : Hid (Box w' bn #[.int .i64 (k : Int)]) := Lib.hid ((HBX5.out.ext HWB.out).grown HG9.out (fun e => hbg (by simpa using e)))
          have HRV := Lib.hid (reverse_any w' g (i + 1) (k - (i + 1)) (k - (i + 1)) (swapI p i y) HC9.out (by rw [swap_len, HPL.out]; omega) (by rw [swap_len, HPL.out]; omega) (Nat.le_refl _) (by omega))
          go_wp2
          gi_wp2_with (refine ⟨trivial, ?_⟩; gi_at_call 50; refine (callsIn_wide.2 HRV.out).mono ?_; rintro e w8 ⟨⟨v8, rfl⟩, hc8, hg8⟩; have HC8 := Lib.hid hc8; have HG8 := Lib.hid hg8; clear hc8 hg8)
          have hj1 : j + 1 < (permsL k).length := HNX.out.1.1 (by rw [HUE.out]; omega)
          have hrow : rowAt (permsL k) (j + 1) = (swapI p i y).take (i + 1) ++ ((swapI p i y).drop (i + 1)).reverse := by
           rw [HNX.out.2 hj1]
           unfold nextL
           rw [HPL.out, HUE.out]
           simp only [Nat.add_sub_cancel]
           rw [HXI.out, HGY.out]
          have hc9 : CellsN w8 g (intsA (rowAt (permsL k) (j + 1))) := by rw [hrow]; exact HC8.out
          have htg : ∀ (A B : World), A.grownBy B (some g) → Turned (fun q => W.heap.size ≤ q ∧ q < W.heap.size + 1) A B := fun A B h => Turned.of_grown h (fun q e => by
           have e2 : g = q := by simpa using e
           omega)
          have hch := ((((Turned.of_below (X := fun q => W.heap.size ≤ q ∧ q < W.heap.size + 1) HBU.out).trans (Turned.of_below HBV.out)).trans (Turned.of_below HWB.out)).trans (htg _ _ HG9.out)).trans (htg _ _ HG8.out)
          refine ⟨⟨j + 1, hj1, hc9, HJ.out _ _ _ _ (by omega) HJ4.out hch, HBX9.out.grown HG8.out (fun e => hbg (by simpa using e)), by have := hch.size; have := HZ4.out; omega⟩, ?_⟩
          rw [permLeft_at hj1 hc9, HML.out]
          omega
    ·clear hy h1
     gi_wp2
     go_end0
     exact ⟨⟨_, rfl⟩, W.heap.size + 1, by omega, Nat.le_trans HZ5.out ht.size, .inr ⟨j, hj, hJx'⟩⟩
end Go.Proofs.YteiaeaciaglmgaaGreat
set_option linter.unusedSectionVars false
namespace Go.Proofs.YteiaeaciaglmgaaGreat
open Go.RowKit
def WayV (P : Nat → Prop) (C : Nat) (w : World) (v : Value) (rows : List (List Int)) (vals : List Value) : Prop :=
 w.ownsRow C 25 1 v rows.length vals ∧ vals.length = rows.length ∧ rows.length ≤ 2001 ∧ ∀ j, j < rows.length → IsIntsX (fun q => P q ∧ v.ownBlock ≠ some q) w (valAt vals j) (rowAt rows j)
def WayAt (P : Nat → Prop) (C : Nat) (w : World) (v : Value) (rows : List (List Int)) : Prop := ∃ vals, WayV P C w v rows vals
section
variable {P : Nat → Prop} {C : Nat} {w w' : World} {v : Value} {rows : List (List Int)} {vals : List Value}
theorem WayV.nil : WayV P C w (.slice none 0 0) [] [] := ⟨World.ownsRow_nil _ _ _ _, rfl, by simp, fun j hj => by simp at hj⟩
theorem WayV.lt (h : WayV P C w v rows vals) : ∀ q, v.ownBlock = some q → C ≤ q ∧ q < w.heap.size := h.1.lt
theorem WayV.form (h : WayV P C w v rows vals) : (v = .slice none 0 0 ∧ rows = []) ∨ ∃ g cap, v = .slice (some ⟨g, 0, none⟩) rows.length cap ∧ rows.length ≤ cap ∧ cap ≤ maxLen := by
 obtain ⟨⟨_, h1⟩, h2, h3, h4⟩ := h
 rcases h1 with ⟨rfl, hn⟩ | ⟨g, cap, cur, rfl, _, _, h5, h6, _⟩
 ·exact .inl ⟨rfl, List.length_eq_zero_iff.1 hn⟩
 ·exact .inr ⟨g, cap, rfl, h5, h6⟩
theorem WayV.turned {X : Nat → Prop} (h : WayV P C w v rows vals) (ht : Turned X w w') (hX : ∀ q, P q → ¬ v.ownBlock = some q → ¬ X q) (hv : ∀ q, v.ownBlock = some q → ¬ X q) : WayV P C w' v rows vals := by
 obtain ⟨⟨k1, h1⟩, h2, h3, h4⟩ := h
 refine ⟨⟨k1, ?_⟩, h2, h3, fun j hj => (h4 j hj).turned ht (fun k hk => hX k hk.1 hk.2)⟩
 rcases h1 with h1 | ⟨g, cap, cur, rfl, hb, hh, rest⟩
 ·exact .inl h1
 ·exact .inr ⟨g, cap, cur, rfl, hb, (ht.block g (Array.getElem?_eq_some_iff.1 hh).1 (hv g rfl)).trans hh, rest⟩
theorem WayV.ext (h : WayV P C w v rows vals) (hb : Below w.heap.size w w') : WayV P C w' v rows vals :=
 h.turned (X := fun _ => False) ⟨hb.os, hb.tape, hb.output, hb.size, fun k hk _ => hb.block k hk⟩ (fun _ _ _ e => e) (fun _ _ e => e)
theorem WayV.mono {P' : Nat → Prop} (h : WayV P C w v rows vals) (hP : ∀ q, P q → q < w.heap.size → P' q) : WayV P' C w v rows vals :=
 ⟨h.1, h.2.1, h.2.2.1, fun j hj => (h.2.2.2 j hj).old (fun q hq hz => ⟨hP q hq.1 hz, hq.2⟩)⟩
theorem WayV.take {a : Option Addr} {n cap k : Nat} (h : WayV P C w (.slice a n cap) rows vals) (hk : k ≤ rows.length) : WayV P C w (.slice a k cap) (rows.take k) (vals.take k) := by
 obtain ⟨⟨k1, h1⟩, h2, h3, h4⟩ := h
 have hl : (rows.take k).length = k := by rw [List.length_take]; omega
 refine ⟨⟨by rw [hl, List.length_take]; omega, ?_⟩, by rw [hl, List.length_take]; omega, by omega, fun j hj => ?_⟩
 ·rcases h1 with ⟨e, hn⟩ | ⟨g, cap', cur, e, hb, hh, hc1, hc2, hc3, hc4⟩
  ·cases e
   exact .inl ⟨by rw [show k = 0 by omega], by omega⟩
  ·cases e
   refine .inr ⟨g, cap, cur, by rw [hl], hb, hh, by omega, hc2, hc3, ?_⟩
   rw [hl, ← hc4, List.take_take]
   congr 1
   omega
 ·rw [hl] at hj
  have e1 : valAt (vals.take k) j = valAt vals j := by
   unfold valAt
   rw [List.getD_eq_getElem?_getD, List.getD_eq_getElem?_getD, List.getElem?_take, if_pos hj]
  have e2 : rowAt (rows.take k) j = rowAt rows j := by
   unfold rowAt
   rw [List.getD_eq_getElem?_getD, List.getD_eq_getElem?_getD, List.getElem?_take, if_pos hj]
  have e3 : (Value.slice a k cap).ownBlock = (Value.slice a n cap).ownBlock := by cases a <;> rfl
  rw [e1, e2, e3]
  exact h4 j (by omega)
theorem run_append_way {b : Nat} {r : Value} {row : List Int} {oty : TypeId} (h : WayV P C w v rows vals) (hr : w.cell? ⟨b, 0, none⟩ = some r) (hrow : IsIntsX (fun q => P q ∧ v.ownBlock ≠ some q) w r row) (hlen : rows.length ≤ 2000) (hC : C ≤ w.heap.size) :
  ∃ v' w', (Builtin.append_ #[35, 35] oty #[v, .slice (some ⟨b, 0, none⟩) 1 1]).run Tryz.prog w = .ok v' w' ∧ WayV P C w' v' (rows ++ [row]) (vals ++ [r]) ∧ w.grownBy w' v.ownBlock ∧ (v'.ownBlock = v.ownBlock ∨ v'.ownBlock = some w.heap.size) := by
 obtain ⟨i0, hi, hz0, hz1, hz2⟩ := info_parts ints_info
 obtain ⟨o1, o2, o3, o4⟩ := h
 have hs : Src w 1 (.slice (some ⟨b, 0, none⟩) 1 1) 1 [r] := src_one hr (by
  obtain ⟨_, _, c, ⟨a, e, _⟩, _⟩ := hrow
  rw [e]; rfl)
 obtain ⟨v', w', h1, h2, h3, h4⟩ := run_append_gen (P := Tryz.prog) w C 35 oty 25 i0 _ 1 24 Tryz.underlying35 hi hz0 hz1 hz2 rfl (by decide) v rows.length _ o1 _ 1 _ hs (by unfold maxLen; omega) (by omega) hC
 have hne : ∀ q, q < w.heap.size → v.ownBlock ≠ some q → v'.ownBlock ≠ some q := fun q q2 q3 he => by
  rcases h4 with h4 | h4
  ·exact q3 (h4.symm.trans he)
  ·rw [h4] at he
   injection he with he
   omega
 have hkeep : ∀ u xs, IsIntsX (fun q => P q ∧ v.ownBlock ≠ some q) w u xs → IsIntsX (fun q => P q ∧ v'.ownBlock ≠ some q) w' u xs := by
  rintro u xs ⟨b', off', cap', g1, g2, g3, g4⟩
  refine ⟨b', off', cap', g1, g2, g3, fun i hi => ?_⟩
  obtain ⟨⟨x1, x2⟩, x3, x4⟩ := g4 i hi
  exact ⟨⟨x1, hne _ x3 x2⟩, Nat.lt_of_lt_of_le x3 h3.size, (World.cell?_of_block (a := ⟨b', off' + i, none⟩) (h3.block b' x3 (fun e => x2 e.symm))).trans x4⟩
 refine ⟨v', w', h1, ⟨by simpa using h2, by simp [o2], by simp; omega, fun j hj => ?_⟩, h3, h4⟩
 by_cases e : j < rows.length
 ·have e1 : valAt (vals ++ [r]) j = valAt vals j := by
   unfold valAt
   rw [List.getD_eq_getElem?_getD, List.getD_eq_getElem?_getD, List.getElem?_append_left (by omega)]
  rw [e1, rowAt_app, if_pos e]
  exact hkeep _ _ (o4 j e)
 ·obtain rfl : j = rows.length := by simp at hj; omega
  have e1 : valAt (vals ++ [r]) rows.length = r := by
   unfold valAt
   rw [List.getD_eq_getElem?_getD, List.getElem?_append_right (by omega), o2]
   simp
  rw [e1, rowAt_app, if_neg (by omega), if_pos rfl]
  exact hkeep _ _ hrow
theorem WayAt.isMat (h : WayAt P C w v rows) : IsMat w.heap.size w v rows := by
 obtain ⟨vals, ⟨hl, h1⟩, h2, h3, h4⟩ := h
 rcases h1 with ⟨rfl, hn⟩ | ⟨g, cap, cur, rfl, hb, hg, hnc, hcm, hcs, htk⟩
 ·refine ⟨0, 0, 0, ⟨none, by rw [hn], by omega, by omega, .inr hn⟩, by omega, fun j hj => by omega⟩
 ·refine ⟨g, 0, cap, ⟨_, rfl, hnc, by unfold maxLen at hcm; omega, .inl rfl⟩, by omega, fun j hj => ?_⟩
  refine ⟨valAt vals j, ⟨(Array.getElem?_eq_some_iff.1 hg).1, ?_⟩, (h4 j hj).ints⟩
  simp only [World.cell?, hg, Nat.zero_add]
  have : (cur.toList.take (rows.length * 1))[j]? = vals[j]? := by rw [htk]
  rw [List.getElem?_take, if_pos (by omega), List.getElem?_eq_getElem (show j < vals.length by omega)] at this
  unfold valAt
  rw [List.getD_eq_getElem?_getD, List.getElem?_eq_getElem (show j < vals.length by omega)]
  simpa using this
end
/-- a list of numbers of one's own lies in no list of lists -/
theorem OwnInts.apartW {P : Nat → Prop} {B C : Nat} {w : World} {r v : Value} {xs : List Int} {rows : List (List Int)} {vals : List Value} (h : OwnInts B w r xs) (h' : WayV P C w v rows vals) : ∀ q, r.ownBlock = some q → v.ownBlock ≠ some q := by
 intro q hq hv
 obtain ⟨h1, _⟩ := h'
 rcases h.apart h1 with h2 | h2
 ·rw [hq] at h2; cases h2
 ·exact h2 (hq.trans hv.symm)
theorem reach_end {f : Flow} (hl : lotsB f f.lots.length = true) (h0 : 0 ≤ f.senders) : ∀ {m : Nat}, m ≤ f.lots.length → ∀ {s e : Int}, 0 ≤ s → s < beforeI f f.lots.length → goneB f s (f.lots.length - m) = false → rTo f m s e = true → e ∈ endsL f
 | 0, _, s, e, h1, h2, h3, h4 => by
  have : s = e := by simpa [rTo] using h4
  subst this
  rw [Nat.sub_zero] at h3
  exact (endsTo_mem f s _).2 ⟨h1, by omega, h3⟩
 | m + 1, hm, s, e, h1, h2, h3, h4 => by
  obtain ⟨k, hk⟩ : ∃ k, f.lots.length - (m + 1) = k := ⟨_, rfl⟩
  have hk1 : f.lots.length - m = k + 1 := by omega
  have hkl : k < f.lots.length := by omega
  have hb0 : 0 ≤ beforeI f k := by have := beforeI_mono (f := f) (Nat.zero_le k); simp only [beforeI] at this; omega
  rw [hk] at h3
  simp only [rTo, hk] at h4
  have hmono := beforeI_mono (f := f) (show k + 1 ≤ f.lots.length by omega)
  simp only [beforeI] at hmono
  have hout : ∀ p : Int, 0 ≤ p → p < (lotAt f.lots k).ins.length → rTo f m (beforeI f k + p) e = true → e ∈ endsL f := fun p p1 p2 h => by
   refine reach_end hl h0 (by omega) (s := beforeI f k + p) (by omega) (by omega) ?_ h
   rw [hk1]
   have hgo : ∀ j, j ≤ k + 1 → goneB f (beforeI f k + p) j = false := fun j => by
    induction j with
    | zero => intro _; rfl
    | succ j ih =>
     intro hj
     simp only [goneB, ih (by omega), Bool.false_or]
     exact not_in hl (k := k) (by omega) (by omega) (by omega)
   exact hgo _ (Nat.le_refl _)
  by_cases hh : hasB (lotAt f.lots k).ins s = true
  ·rw [if_pos hh] at h4
   have hi : (lotAt f.lots k).ins.idxOf s < (lotAt f.lots k).ins.length := List.idxOf_lt_length_of_mem (hasB_mem.1 hh)
   by_cases hkn : (lotAt f.lots k).known = true
   ·rw [if_pos hkn] at h4
    have hp := permB_parts ((lotB_parts (lotsB_lot hl hkl)).2.2.2.1 hkn)
    have hpi := hp.1 _ (nth_mem (l := (lotAt f.lots k).perm) (k := (lotAt f.lots k).ins.idxOf s) (by rw [hp.2.1]; exact hi))
    exact hout _ hpi.1 hpi.2 h4
   ·rw [if_neg hkn] at h4
    obtain ⟨i, i1, i2⟩ := anyN_iff.1 h4
    exact hout _ (by omega) (by omega) i2
  ·rw [if_neg hh] at h4
   refine reach_end hl h0 (by omega) h1 h2 ?_ h4
   rw [hk1]
   simp only [goneB, h3, Bool.false_or]
   simpa using hh
theorem lead_rAt {f : Flow} (hc : checkE f = 0) {s e : Int} (h1 : 0 ≤ s) (h2 : s < beforeI f f.lots.length) : leadE f s e = rAt f 0 s e := by
 obtain ⟨h0, _, _, _, hl⟩ := checkE_ok hc
 unfold leadE
 cases h : rAt f 0 s e with
 | false => rw [Bool.and_false]
 | true =>
  have : e ∈ endsL f := reach_end hl h0 (Nat.le_refl _) h1 h2 (by rw [Nat.sub_self]; rfl) h
  rw [hasB_iff.2 this]
  rfl
def posL (f : Flow) (w : List (List Int)) (k : Nat) : List Int := (List.range f.senders.toNat).map (posW f w k)
/-- the ends that the letters at the inputs of lot k are to reach -/
def endIn (f : Flow) (a : List Int) (w : List (List Int)) (k r : Nat) : Int := nth a ((posL f w k).idxOf (nth (lotAt f.lots k).ins r))
section
variable {f : Flow} {a : List Int} {w : List (List Int)} {k : Nat} (hc : checkE f = 0) (hk : k < f.lots.length) (ho : WayOk f w k)
include hc hk ho
theorem end_in {r : Nat} (hr : r < (lotAt f.lots k).ins.length) : ∃ t, t < f.senders.toNat ∧ posW f w k t = nth (lotAt f.lots k).ins r ∧ endIn f a w k r = nth a t := by
 obtain ⟨h0, _, _, _, hl⟩ := checkE_ok hc
 have hlk := lotsB_le hl (show k ≤ f.lots.length by omega)
 have hin := (lotB_parts (lotsB_lot hl hk)).2.2.1 _ (nth_mem hr)
 obtain ⟨t, ht, e⟩ := pos_hit h0 (by omega) hlk ho hin.1 hin.2.1 hin.2.2
 have hm : nth (lotAt f.lots k).ins r ∈ posL f w k := by rw [← e]; exact List.mem_map.2 ⟨t, List.mem_range.2 ht, rfl⟩
 have hi := nth_idx hm
 have hil : (posL f w k).idxOf (nth (lotAt f.lots k).ins r) < f.senders.toNat := by simpa [posL] using hi.1
 refine ⟨_, hil, ?_, rfl⟩
 have h2 := hi.2
 rw [nth_lt hi.1] at h2
 have h3 : (posL f w k)[(posL f w k).idxOf (nth (lotAt f.lots k).ins r)]'hi.1 = posW f w k ((posL f w k).idxOf (nth (lotAt f.lots k).ins r)) := by simp only [posL, List.getElem_map, List.getElem_range]
 exact h3.symm.trans h2
theorem end_at {r t : Nat} (hr : r < (lotAt f.lots k).ins.length) (ht : t < f.senders.toNat) (e : posW f w k t = nth (lotAt f.lots k).ins r) : endIn f a w k r = nth a t := by
 obtain ⟨h0, _, _, _, hl⟩ := checkE_ok hc
 obtain ⟨t', ht', e', h⟩ := end_in (a := a) hc hk ho hr
 rw [h, pos_inj h0 (by omega) (lotsB_le hl (show k ≤ f.lots.length by omega)) ho ht' ht (e'.trans e.symm)]
end
/-- the map of ends while the outputs of lot k are filled in -/
def outM (f : Flow) (a : List Int) (w : List (List Int)) (k : Nat) (p : List Int) (al : AL) : Nat → AL
 | 0 => al
 | q + 1 => aset (outM f a w k p al q) (beforeI f k + nth p q) (.int .i64 (endIn f a w k q))
/-- do the outputs lead to the ends? -/
def fitN (f : Flow) (a : List Int) (w : List (List Int)) (k : Nat) (p : List Int) (q : Nat) : Bool := allN (fun r => leadE f (beforeI f k + nth p r) (endIn f a w k r)) q
/-- at the spots of the letters behind k lots the map has their ends -/
def EndsAt (f : Flow) (a : List Int) (w : List (List Int)) (k : Nat) (al : AL) : Prop := ∀ t, t < f.senders.toNat → alook al (posW f w k t) = some (.int .i64 (nth a t))
theorem out_low {f : Flow} {a : List Int} {w : List (List Int)} {k : Nat} {p : List Int} {al : AL} {x : Int} (hx : x < beforeI f k) (hp : ∀ y ∈ p, 0 ≤ y) : ∀ {q}, q ≤ p.length → alook (outM f a w k p al q) x = alook al x
 | 0, _ => rfl
 | q + 1, hq => by
  simp only [outM]
  have := hp _ (nth_mem (l := p) (k := q) (by omega))
  rw [alook_aset, if_neg (by omega), out_low hx hp (by omega)]
theorem out_at {f : Flow} {a : List Int} {w : List (List Int)} {k : Nat} {p : List Int} {al : AL} (hn : p.Nodup) : ∀ {q r}, q ≤ p.length → r < q → alook (outM f a w k p al q) (beforeI f k + nth p r) = some (.int .i64 (endIn f a w k r))
 | q + 1, r, hq, hr => by
  simp only [outM]
  rw [alook_aset]
  by_cases e : r = q
  ·subst e; rw [if_pos rfl]
  ·have hne : nth p r ≠ nth p q := fun e2 => e (nth_inj hn (by omega) (by omega) e2)
   rw [if_neg (by omega), out_at hn (by omega) (by omega)]
section
variable {f : Flow} {a : List Int} {w : List (List Int)} {k : Nat} {p : List Int} (hc : checkE f = 0) (hk : k < f.lots.length) (hw : w.length = k) (ho : WayOk f w k) (hp : p ∈ permsOf (lotAt f.lots k))
include hc hk hw ho hp
theorem pos_snoc (t : Nat) : posW f (w ++ [p]) k t = posW f w k t := pos_same (by omega) (fun j hj => by rw [rowAt_app, if_pos (by omega)]) t
theorem pos_next (t : Nat) : posW f (w ++ [p]) (k + 1) t = if hasB (lotAt f.lots k).ins (posW f w k t) then beforeI f k + nth p ((lotAt f.lots k).ins.idxOf (posW f w k t)) else posW f w k t := by
 rw [pos_step hk, pos_snoc hc hk hw ho hp]
 have : rowAt (w ++ [p]) k = p := by rw [rowAt_app, if_neg (by omega), if_pos hw.symm]
 rw [this]
theorem ends_next {al : AL} (h : EndsAt f a w k al) : EndsAt f a (w ++ [p]) (k + 1) (outM f a w k p al (lotAt f.lots k).ins.length) := by
 obtain ⟨h0, _, _, _, hl⟩ := checkE_ok hc
 have hpp := permB_parts (permsOf_perm (lotsB_lot hl hk) hp)
 intro t ht
 rw [pos_next hc hk hw ho hp]
 by_cases hh : hasB (lotAt f.lots k).ins (posW f w k t) = true
 ·rw [if_pos hh]
  have hi := nth_idx (hasB_iff.1 hh)
  rw [out_at hpp.2.2 (by omega) hi.1]
  rw [end_at hc hk ho hi.1 ht hi.2.symm]
 ·rw [if_neg hh]
  have hlt := (pos_lt h0 (show k ≤ f.lots.length by omega) (lotsB_le hl (by omega)) ho ht).2.1
  rw [out_low hlt (fun y hy => (hpp.1 y hy).1) (by omega)]
  exact h t ht
theorem fits_good (hg : GoodAt f a w k) : fitN f a w k p (lotAt f.lots k).ins.length = true ↔ GoodAt f a (w ++ [p]) (k + 1) := by
 obtain ⟨h0, _, _, _, hl⟩ := checkE_ok hc
 have hpp := permB_parts (permsOf_perm (lotsB_lot hl hk) hp)
 have hg' : GoodAt f a (w ++ [p]) k := fun i hi => by rw [pos_snoc hc hk hw ho hp]; exact hg i hi
 have hb0 : 0 ≤ beforeI f k := by have := beforeI_mono (f := f) (Nat.zero_le k); simp only [beforeI] at this; omega
 have hmono := beforeI_mono (f := f) (show k + 1 ≤ f.lots.length by omega)
 simp only [beforeI] at hmono
 have hout : ∀ r, r < (lotAt f.lots k).ins.length → ∀ e, leadE f (beforeI f k + nth p r) e = rAt f (k + 1) (beforeI f k + nth p r) e := fun r hr e => by
  have := hpp.1 _ (nth_mem (l := p) (k := r) (by omega))
  rw [lead_rAt hc (by omega) (by omega), rAt_out hl hk (by omega)]
 rw [good_step hk hg']
 unfold fitN
 rw [allN_iff]
 constructor
 ·intro h i hi hh
  rw [pos_snoc hc hk hw ho hp] at hh
  rw [pos_next hc hk hw ho hp, if_pos hh]
  have hx := nth_idx (hasB_iff.1 hh)
  have h1 := h _ hx.1
  rw [hout _ hx.1, end_at hc hk ho hx.1 hi hx.2.symm] at h1
  exact h1
 ·intro h r hr
  obtain ⟨t, ht, e, e2⟩ := end_in (a := a) hc hk ho hr
  have h1 := h t ht (by rw [pos_snoc hc hk hw ho hp, e]; exact hasB_iff.2 (nth_mem hr))
  have hn := (lotB_parts (lotsB_lot hl hk)).2.1
  rw [pos_next hc hk hw ho hp, e, if_pos (hasB_iff.2 (nth_mem hr)), idxOf_nth hn hr] at h1
  rw [hout r hr, e2]
  exact h1
end
end Go.Proofs.YteiaeaciaglmgaaGreat
namespace Go.Proofs.YteiaeaciaglmgaaGreat
open Go.RowKit
/-- the blocks of Make -/
structure EnvM where
 B : Nat
 C : Nat
 C0 : Nat
 D0 : Nat
 cx : Nat
 q0 : Nat
 ca : Nat
 bm : Nat
 cw : Nat
 cf : Nat
 vl : Value
 f : Flow
 a : List Int
structure EnvM.Ok (E : EnvM) : Prop where
 o1 : E.B ≤ E.cw
 o2 : E.cw < E.C0
 o3 : E.C0 ≤ E.D0
 x1 : E.D0 ≤ E.cx ∧ E.cx < E.C
 x2 : E.D0 ≤ E.ca ∧ E.ca < E.C
 x3 : E.D0 ≤ E.bm ∧ E.bm < E.C
 x4 : E.D0 ≤ E.cf ∧ E.cf < E.C
 ne : E.bm ≠ E.cx ∧ E.bm ≠ E.ca ∧ E.bm ≠ E.cf
def EnvM.P (E : EnvM) (q : Nat) : Prop := q < E.B ∨ E.C ≤ q
def EnvM.FV (E : EnvM) : Value := .func (.func 26) #[] #[.pointer (some ⟨E.cx, 0, none⟩), .pointer (some ⟨E.ca, 0, none⟩), .pointer (some ⟨E.cw, 0, none⟩), .pointer (some ⟨E.cf, 0, none⟩)]
/-- what the search keeps: the list begins with the way w of k lots, whose rows lie in blocks of K -/
structure FindS (E : EnvM) (K : Nat → Prop) (v : Value) (k : Nat) (ws : List Value) (w : List (List Int)) (W : World) : Prop where
 lots : LotsAt E.C0 E.D0 W E.q0 E.vl E.f
 flow : IsLots E.B W E.vl E.f.lots
 cx : Cell1 W E.cx (.pointer (some ⟨E.q0, 0, none⟩))
 ca : Cell1 W E.ca (.map (some E.bm))
 cf : Cell1 W E.cf E.FV
 cw : Cell1 W E.cw v
 way : ∃ a n cap, v = .slice a n cap ∧ (k ≤ n ∧ n ≤ cap) ∧ WayV K E.C W (.slice a k cap) w ws
 mp : ∃ al, IntMap W E.bm al ∧ EndsAt E.f E.a w k al
 sz : E.C ≤ W.heap.size
 nn : ∀ q, K q → E.P q ∧ q < W.heap.size
theorem FindS.own {E : EnvM} {K : Nat → Prop} {v : Value} {k : Nat} {ws : List Value} {w : List (List Int)} {W : World} (h : FindS E K v k ws w W) : ∀ q, v.ownBlock = some q → E.C ≤ q ∧ q < W.heap.size := by
 obtain ⟨a, n, cap, rfl, _, h2⟩ := h.way
 intro q e
 have e3 : (Value.slice a k cap).ownBlock = (Value.slice a n cap).ownBlock := by cases a <;> rfl
 exact h2.lt q (e3.trans e)
theorem FindS.turnedW {E : EnvM} (hE : E.Ok) {K : Nat → Prop} {v : Value} {k : Nat} {ws : List Value} {w : List (List Int)} {W W' : World} (h : FindS E K v k ws w W) {X : Nat → Prop} (ht : Turned X W W') (hX : ∀ q, q < E.C → q ≠ E.bm → ¬ X q) (hr : ∀ q, E.C ≤ q → K q → v.ownBlock ≠ some q → ¬ X q) (hv : ∀ q, v.ownBlock = some q → ¬ X q)
  {al : AL} (hm : IntMap W' E.bm al) (ha : EndsAt E.f E.a w k al) : FindS E K v k ws w W' := by
 have hx := hE.x1
 have hx2 := hE.x2
 have hx3 := hE.x3
 have hx4 := hE.x4
 have hn := hE.ne
 have h1 := hE.o1
 have h2 := hE.o2
 have h3 := hE.o3
 obtain ⟨a, n, cap, hve, hkn, hwv⟩ := h.way
 have e3 : (Value.slice a k cap).ownBlock = v.ownBlock := by rw [hve]; cases a <;> rfl
 exact ⟨h.lots.turned ht (fun q a b => hX q (by omega) (by omega)), h.flow.below (ht.below (B := E.B) (by have := h.sz; omega) (fun q hq => hX q (by omega) (by omega))) (Nat.le_refl _), h.cx.turned ht (hX _ (by omega) (fun e => hn.1 e.symm)), h.ca.turned ht (hX _ (by omega) (fun e => hn.2.1 e.symm)), h.cf.turned ht (hX _ (by omega) (fun e => hn.2.2 e.symm)), h.cw.turned ht (hX _ (by omega) (by omega)),
  ⟨a, n, cap, hve, hkn, hwv.turned ht (fun q hp hv' => by
   have hp1 := (h.nn q hp).1
   unfold EnvM.P at hp1
   rcases hp1 with hp1 | hp1
   ·exact hX q (by omega) (by omega)
   ·exact hr q hp1 hp (fun e => hv' (e3.trans e))) (fun q e => hv q (e3.symm.trans e))⟩, ⟨al, hm, ha⟩, Nat.le_trans h.sz ht.size, fun q hq => ⟨(h.nn q hq).1, Nat.lt_of_lt_of_le (h.nn q hq).2 ht.size⟩⟩
theorem FindS.keepM {E : EnvM} (hE : E.Ok) {K : Nat → Prop} {v : Value} {k : Nat} {ws : List Value} {w : List (List Int)} {W W' : World} (h : FindS E K v k ws w W) (ht : Turned (fun q => q = E.bm) W W')
  {al : AL} (hm : IntMap W' E.bm al) (ha : EndsAt E.f E.a w k al) : FindS E K v k ws w W' :=
 h.turnedW hE ht (fun q _ h => h) (fun q h1 _ _ e => by have := hE.x3; omega) (fun q e e2 => by have := (h.own q e).1; have := hE.x3; omega) hm ha
theorem FindS.ext {E : EnvM} (hE : E.Ok) {K : Nat → Prop} {v : Value} {k : Nat} {ws : List Value} {w : List (List Int)} {W W' : World} (h : FindS E K v k ws w W) (hb : Below W.heap.size W W') : FindS E K v k ws w W' := by
 obtain ⟨al, h1, h2⟩ := h.mp
 exact h.keepM hE ⟨hb.os, hb.tape, hb.output, hb.size, fun q hq _ => hb.block q hq⟩ (h1.ext hb) h2
def MapKeep (W W' : World) (bm : Nat) (b : Int) : Prop := ∀ al, IntMap W bm al → ∃ al', IntMap W' bm al' ∧ ∀ x, x < b → alook al' x = alook al x
/-- how the search for the rest of a way ends -/
def FPost (E : EnvM) (K S : Nat → Prop) (v : Value) (k : Nat) (ws : List Value) (w : List (List Int)) (W : World) (r : Option (List (List Int))) (e : Ending) (W' : World) : Prop :=
 e = .returned (.bool r.isSome) ∧ ∃ v', FindS E K v' k ws w W' ∧ MapKeep W W' E.bm (beforeI E.f k) ∧ Turned (fun q => q = E.bm ∨ q = E.cw ∨ v.ownBlock = some q) W W' ∧
  (∀ g, v'.ownBlock = some g → v.ownBlock = some g ∨ W.heap.size ≤ g) ∧ ∀ u, r = some u → WayAt (fun q => K q ∨ S q ∨ W.heap.size ≤ q) E.C W' v' u
/-- the contract of find for the lots from k on -/
def FindC (E : EnvM) (k : Nat) : Prop := ∀ (W : World) (K : Nat → Prop) (v : Value) (ws : List Value) (w : List (List Int)), FindS E K v k ws w W → (∃ a cap, v = .slice a k cap) → w.length = k → WayOk E.f w k → GoodAt E.f E.a w k →
 Calls Tryz.prog 26 #[.int .i64 (k : Int), .pointer (some ⟨E.cx, 0, none⟩), .pointer (some ⟨E.ca, 0, none⟩), .pointer (some ⟨E.cw, 0, none⟩), .pointer (some ⟨E.cf, 0, none⟩)] W (FPost E K (fun q => q < E.B) v k ws w W (findM E.f E.a (E.f.lots.length - k) w))
theorem append_wayA {ops : Array Oper} {rest : List Oper} {o : Oper} {act : Act} {w : World} {Q : Exit → Act → World → Prop} (hgd : o.guard = none) (s x : Operand)
  (ho : o.op = .call { callee := .builtin .append, args := #[s, x], argTypes := #[35, 35] }) {P : Nat → Prop} {C b : Nat} {v r : Value} {rows : List (List Int)} {vals : List Value} {row : List Int} (hs : act.eval s = v) (hx : act.eval x = .slice (some ⟨b, 0, none⟩) 1 1)
  (h : WayV P C w v rows vals) (hr : w.cell? ⟨b, 0, none⟩ = some r) (hrow : IsIntsX (fun q => P q ∧ v.ownBlock ≠ some q) w r row) (hlen : rows.length ≤ 2000) (hC : C ≤ w.heap.size)
  (hk : ∀ v' w', WayV P C w' v' (rows ++ [row]) (vals ++ [r]) → w.grownBy w' v.ownBlock → (v'.ownBlock = v.ownBlock ∨ v'.ownBlock = some w.heap.size) → wpList Tryz.prog ops Q rest (act.put o.dst v') w') : wpList Tryz.prog ops Q (o :: rest) act w := by
 refine wpList_plain hgd fun K hK => ?_
 obtain ⟨v', w', h1, h2, h3, h4⟩ := run_append_way (oty := o.type) h hr hrow hlen hC
 exact wp_of_append w ho hs hx h1 (hK _ _ (hk v' w' h2 h3 h4))
theorem IntMap.uniq {w : World} {r : Nat} {l l' : AL} (h : IntMap w r l) (h' : IntMap w r l') : l = l' := by
 obtain ⟨es, c, h1, _, h2⟩ := h
 obtain ⟨es', c', h1', _, h2'⟩ := h'
 rw [h1] at h1'
 cases h1'
 rw [h2] at h2'
 have hinj : ∀ a b : Int × Value, ((Value.int .i64 a.1, a.2) : Value × Value) = (Value.int .i64 b.1, b.2) → a = b := fun a b e => by
  obtain ⟨a1, a2⟩ := a
  obtain ⟨b1, b2⟩ := b
  simp only [Prod.mk.injEq, Value.int.injEq, true_and] at e
  rw [e.1, e.2]
 exact (List.map_inj_right hinj).1 h2'
theorem take_snoc {α : Type} {w : List α} {p : α} {k : Nat} (hw : w.length = k) : (w ++ [p]).take k = w := by rw [List.take_left' hw]
theorem FindS.back {E : EnvM} (hE : E.Ok) {K K' : Nat → Prop} {v v' rp : Value} {ws : List Value} {w : List (List Int)} {p : List Int} {k : Nat} {W W' : World} (h0 : FindS E K v k ws w W) (h : FindS E K' v' (k + 1) (ws ++ [rp]) (w ++ [p]) W') (ht : Turned (fun q => q = E.bm ∨ q = E.cw ∨ v.ownBlock = some q) W W')
  (hown : ∀ g, v'.ownBlock = some g → v.ownBlock = some g ∨ W.heap.size ≤ g) (hw : w.length = k) {al : AL} (hm : IntMap W' E.bm al) (ha : EndsAt E.f E.a w k al) : FindS E K v' k ws w W' := by
 obtain ⟨a0, n0, cap0, e0, hk0, hv0⟩ := h0.way
 obtain ⟨a, n, cap, e, hkn, hv⟩ := h.way
 have hwl : ws.length = k := by rw [hv0.2.1, hw]
 have e1 : (Value.slice a0 k cap0).ownBlock = v.ownBlock := by rw [e0]; cases a0 <;> rfl
 have e2 : (Value.slice a k cap).ownBlock = v'.ownBlock := by rw [e]; cases a <;> rfl
 have hvk := hv.take (k := k) (by simp; omega)
 rw [take_snoc hw, take_snoc hwl] at hvk
 have hx3 := hE.x3
 have h1 := hE.o1
 have h2 := hE.o2
 have h3 := hE.o3
 have hnn := h0.nn
 refine ⟨h.lots, h.flow, h.cx, h.ca, h.cf, h.cw, ⟨a, n, cap, e, ⟨by omega, hkn.2⟩, hvk.1, hvk.2.1, hvk.2.2.1, fun j hj => ?_⟩, ⟨al, hm, ha⟩, h.sz, fun q hq => ⟨(hnn q hq).1, Nat.lt_of_lt_of_le (hnn q hq).2 ht.size⟩⟩
 have hx := hv0.2.2.2 j hj
 refine (hx.turned ht (fun q hq hX => ?_)).mono (fun q hq => ⟨hq.1, fun e3 => ?_⟩)
 ·have hp := (hnn q hq.1).1
  unfold EnvM.P at hp
  rcases hX with hX | hX | hX
  ·omega
  ·omega
  ·exact hq.2 (e1.trans hX)
 ·rcases hown q (e2.symm.trans e3) with h4 | h4
  ·exact hq.2 (e1.trans h4)
  ·have := (hnn q hq.1).2; omega
/-- one more list behind the way -/
theorem FindS.next {E : EnvM} (hE : E.Ok) {K S : Nat → Prop} {v v' rp : Value} {ws : List Value} {w : List (List Int)} {p : List Int} {k cap' : Nat} {a' : Option Addr} {W w5 : World} {o : Obj} (h : FindS E K v k ws w W) (hg : (W.alloc o).grownBy w5 v.ownBlock)
  (hS : ∀ q, S q → E.P q ∧ q < W.heap.size) (hway : WayV (fun q => K q ∨ S q) E.C w5 v' (w ++ [p]) (ws ++ [rp])) (hve : v' = .slice a' (k + 1) cap') (hcp : k + 1 ≤ cap') (hw : w.length = k) {al : AL} (hm : IntMap W E.bm al) (ha : EndsAt E.f E.a (w ++ [p]) (k + 1) al) :
  FindS E (fun q => K q ∨ S q) v' (k + 1) (ws ++ [rp]) (w ++ [p]) (w5.setCell ⟨E.cw, 0, none⟩ v') ∧ IntMap (w5.setCell ⟨E.cw, 0, none⟩ v') E.bm al ∧ Turned (fun q => q = E.cw ∨ v.ownBlock = some q) W (w5.setCell ⟨E.cw, 0, none⟩ v') := by
 have hx := hE.x1
 have hx2 := hE.x2
 have hx3 := hE.x3
 have hx4 := hE.x4
 have h1 := hE.o1
 have h2 := hE.o2
 have h3 := hE.o3
 have hsz := h.sz
 have hown := h.own
 have t1 : Turned (fun q => q = E.cw ∨ v.ownBlock = some q) W w5 := (Turned.of_below (box_below' W o)).trans (Turned.of_grown hg (fun q e => .inr e))
 have t2 : Turned (fun q => q = E.cw ∨ v.ownBlock = some q) w5 (w5.setCell ⟨E.cw, 0, none⟩ v') := Turned.of_grown (grown_setCell w5 ⟨E.cw, 0, none⟩ v') (fun q e => .inl (by simpa using e.symm))
 have t3 := t1.trans t2
 have hlow : ∀ q, q < E.C → q ≠ E.cw → ¬ (q = E.cw ∨ v.ownBlock = some q) := fun q a b c => by
  rcases c with c | c
  ·exact b c
  ·have := (hown q c).1; omega
 have hcw : Cell1 w5 E.cw v := h.cw.turned ((Turned.of_below (X := fun q => v.ownBlock = some q) (box_below' W o)).trans (Turned.of_grown hg (fun q e => e))) (fun e => by have := (hown _ e).1; omega)
 have hv5 : ∀ q, v'.ownBlock = some q → E.C ≤ q := fun q e => (hway.lt q e).1
 have hz : (w5.setCell ⟨E.cw, 0, none⟩ v').heap.size = w5.heap.size := by simp [World.setCell]
 have hway2 := hway.turned (X := fun q => q = E.cw) (Turned.of_grown (grown_setCell w5 ⟨E.cw, 0, none⟩ v') (fun q e => by simpa using e.symm)) (fun q hp _ e => by have hp1 : E.P q := (by rcases hp with hp | hp; exact (h.nn q hp).1; exact (hS q hp).1); unfold EnvM.P at hp1; omega) (fun q e e2 => by have := hv5 q e; omega)
 have hnn : ∀ q, K q ∨ S q → E.P q ∧ q < (w5.setCell ⟨E.cw, 0, none⟩ v').heap.size := fun q hq => by
  have h5 := t3.size
  rcases hq with hq | hq
  ·exact ⟨(h.nn q hq).1, Nat.lt_of_lt_of_le (h.nn q hq).2 h5⟩
  ·exact ⟨(hS q hq).1, Nat.lt_of_lt_of_le (hS q hq).2 h5⟩
 refine ⟨⟨h.lots.turned t3 (fun q a b => hlow q (by omega) (by omega)), h.flow.below (t3.below (by omega) (fun q hq => hlow q (by omega) (by omega))) (Nat.le_refl _), h.cx.turned t3 (hlow _ (by omega) (by omega)), h.ca.turned t3 (hlow _ (by omega) (by omega)), h.cf.turned t3 (hlow _ (by omega) (by omega)), hcw.set v', ⟨a', k + 1, cap', hve, ⟨Nat.le_refl _, hcp⟩, ?_⟩, ⟨al, hm.turned t3 (hlow _ (by omega) (by omega)), ha⟩, Nat.le_trans hsz t3.size, hnn⟩, hm.turned t3 (hlow _ (by omega) (by omega)), t3⟩
 rw [← hve]
 exact hway2
theorem Turned.transE {X Y : Nat → Prop} {a b c : World} (h : Turned X a b) (k : Turned Y b c) (hz : ∀ q, q < a.heap.size → Y q → X q) : Turned X a c :=
 ⟨k.os.trans h.os, k.tape.trans h.tape, k.output.trans h.output, Nat.le_trans h.size k.size, fun i hi hx => (k.block i (Nat.lt_of_lt_of_le hi h.size) (fun hy => hx (hz i hi hy))).trans (h.block i hi hx)⟩
theorem LotsAt.read {C D : Nat} {w : World} {q : Nat} {vl : Value} {f : Flow} (h : LotsAt C D w q vl f) {k : Nat} (hk : k < f.lots.length) : ∃ bF oF cF, w.cell? ⟨q, 0, none⟩ = some vl ∧ w.cell? ⟨q, 1, none⟩ = some (.slice (some ⟨bF, oF, none⟩) f.lots.length cF) ∧ w.cell? ⟨bF, oF + k, none⟩ = some (.int .i64 (beforeI f k)) := by
 obtain ⟨vF, A, R, M, _, _, _, _, h5, ⟨b, o, c, ⟨a, e, _, _, ha⟩, _, _, hc⟩, _⟩ := h.lay
 rw [firstF_len] at e ha hc
 obtain rfl : a = some ⟨b, o, none⟩ := by rcases ha with h | h; exact h; omega
 have m1 := h5.cell 0
 have m2 := h5.cell 1
 simp at m1 m2
 rw [e] at m2
 have m3 := (hc k hk).2.2
 rw [firstF_at f hk] at m3
 exact ⟨b, o, c, m1, m2, m3⟩
set_option maxHeartbeats 8000000 in
set_option maxRecDepth 100000 in
/-- explain.Make: try -/
theorem try_any (E : EnvM) (hE : E.Ok) (k : Nat) (hk : k < E.f.lots.length) (hc : checkE E.f = 0) (hal : (E.a.length : Int) = E.f.senders) (ha64 : ∀ x ∈ E.a, I64 x) (hfind : FindC E (k + 1)) (W : World) (K S : Nat → Prop) (v : Value) (ws : List Value) (w : List (List Int)) (vp : Value) (p : List Int) (ck : Nat)
  (hS : FindS E K v k ws w W) (hw : w.length = k) (ho : WayOk E.f w k) (hg : GoodAt E.f E.a w k) (hp : p ∈ permsOf (lotAt E.f.lots k)) (hSp : ∀ q, S q → E.P q ∧ q < W.heap.size) (hSB : ∀ q, q < E.B → S q) (hvp : IsIntsX (fun q => S q ∧ v.ownBlock ≠ some q) W vp p) (hck : Box W ck #[.int .i64 (k : Int)]) (hckC : E.C ≤ ck) (hckv : v.ownBlock ≠ some ck) :
  Calls Tryz.prog 27 #[vp, .pointer (some ⟨E.cx, 0, none⟩), .pointer (some ⟨ck, 0, none⟩), .pointer (some ⟨E.ca, 0, none⟩), .pointer (some ⟨E.cw, 0, none⟩), .pointer (some ⟨E.cf, 0, none⟩)] W (FPost E K S v k ws w W (findM E.f E.a (E.f.lots.length - (k + 1)) (w ++ [p]))) := by
 obtain ⟨h0, h64, hl2, hb5, hlo⟩ := checkE_ok hc
 have HLB := Lib.hid (lotB_parts (lotsB_lot hlo hk))
 have HPP := Lib.hid (permB_parts (permsOf_perm (lotsB_lot hlo hk) hp))
 have HS := Lib.hid hS
 have HVP := Lib.hid hvp
 have HCK := Lib.hid hck
 have HF := Lib.hid hfind
 have HFG := Lib.hid (fits_good hc hk hw ho hp hg)
 have HEN := Lib.hid (fun al (h : EndsAt E.f E.a w k al) => ends_next (al := al) hc hk hw ho hp h)
 have HWO : Hid (WayOk E.f (w ++ [p]) (k + 1)) := Lib.hid (way_app hw ho hp)
 have HNO : Hid (¬ GoodAt E.f E.a (w ++ [p]) (k + 1) → findM E.f E.a (E.f.lots.length - (k + 1)) (w ++ [p]) = none) := Lib.hid (fun h => find_none hc hal (by omega) (by simp; omega) (by rw [show E.f.lots.length - (E.f.lots.length - (k + 1)) = k + 1 by omega]; exact HWO.out) (by rw [show E.f.lots.length - (E.f.lots.length - (k + 1)) = k + 1 by omega]; exact h))
 have HOL : Hid (∀ al q x, x < beforeI E.f k → q ≤ p.length → alook (outM E.f E.a w k p al q) x = alook al x) := Lib.hid (fun al q x hx hq => out_low hx (fun y hy => (HPP.out.1 y hy).1) hq)
 have HEI : Hid (∀ r, r < (lotAt E.f.lots k).ins.length → ∃ t, t < E.f.senders.toNat ∧ posW E.f w k t = nth (lotAt E.f.lots k).ins r ∧ endIn E.f E.a w k r = nth E.a t) := Lib.hid (fun r hr => end_in hc hk ho hr)
 have HPL : Hid (∀ t, t < E.f.senders.toNat → posW E.f w k t < beforeI E.f k) := Lib.hid (fun t ht => (pos_lt h0 (show k ≤ E.f.lots.length by omega) (lotsB_le hlo (by omega)) ho ht).2.1)
 have HA64 := Lib.hid (nth_64 ha64)
 have hB0 := before_bd hc (k := k) (by omega)
 have hB1 := before_bd hc (k := k + 1) (by omega)
 have hBS : beforeI E.f (k + 1) = beforeI E.f k + (lotAt E.f.lots k).ins.length := rfl
 rw [hBS] at hB1
 obtain ⟨hB0, hB0'⟩ := hB0
 obtain ⟨hB1, hB1'⟩ := hB1
 obtain ⟨ap, cp, rfl⟩ := hvp.form
 obtain ⟨b, off, capL, ⟨aL, hvl, hL1, hL2, hL3⟩, hL4, hL5⟩ := hS.flow
 obtain rfl : aL = some ⟨b, off, none⟩ := by rcases hL3 with h | h; exact h; omega
 have HCK0 := Lib.hid (fun (W' : World) (h : Turned (fun q => q = E.bm) W W') => hck.turned h (fun e => by have := hE.x3; omega))
 have HFL : Hid (∀ W', IsLots E.B W' E.vl E.f.lots → ∃ ai ci kn pv, W'.cell? ⟨b, off + k * 3, none⟩ = some (.slice ai (lotAt E.f.lots k).ins.length ci) ∧ W'.cell? ⟨b, off + k * 3 + 1, none⟩ = some kn ∧ W'.cell? ⟨b, off + k * 3 + 2, none⟩ = some pv ∧ IsInts E.B W' (.slice ai (lotAt E.f.lots k).ins.length ci) (lotAt E.f.lots k).ins) := Lib.hid (by
  intro W' h
  obtain ⟨b', off', cap', ⟨a', e, _, _, ha'⟩, _, hc'⟩ := h
  rw [hvl] at e
  cases e
  obtain ⟨rfl, rfl⟩ : b = b' ∧ off = off' := by
   rcases ha' with h | h
   ·simpa using h
   ·omega
  obtain ⟨vi, vk, vp, q1, q2, q3, hli, _, _⟩ := hc' k hk
  obtain ⟨ai, ci, rfl⟩ := hli.form
  exact ⟨ai, ci, vk, vp, q1.2, q2.2, q3.2, hli⟩)
 clear hL3 hL5 hS hvp hck hfind ha64 hBS
 go_enter Tryz.func27, Tryz.ntmps27
 obtain ⟨vF0, A0, R0, M0, g1, g2, g3, g4, g5, g6, _⟩ := HS.out.lots.lay
 have m1 := HS.out.cx.cell
 have m2 := g5.cell 0
 simp at m2
 have m3 := HCK.out.2
 obtain ⟨ai, ci, kn, pv, m4, m5, m6, hins⟩ := HFL.out W HS.out.flow
 rw [hvl] at m2
 clear g1 g2 g3 g4 g5 g6
 go_wp2
 go_quiet (fail)
 obtain ⟨al, hm0, hea⟩ := HS.out.mp
 have HEA := Lib.hid hea
 have HM0 := Lib.hid hm0
 have HINS := Lib.hid hins
 obtain ⟨m, hm⟩ : ∃ x, (lotAt E.f.lots k).ins.length = x := ⟨_, rfl⟩
 have HM := Lib.hid hm
 rw [hm] at hB1 hB1' HINS HLB HPP HEI HEN ⊢
 rw [hm] at HFG
 clear m1 m2 m3 m4 m5 m6 hins hm0 hea hm
 go_wp2_with fail
 go_loopw [8, 21] (fun fi' i' wr => ∃ q : Nat, q ≤ m ∧ i' = .int .i64 (q : Nat) ∧ fi' = .bool (fitN E.f E.a w k p q) ∧ Turned (fun q => q = E.bm) W wr ∧ FindS E K v k ws w wr ∧ IntMap wr E.bm (outM E.f E.a w k p al q)) (fun _ i' _ => m - (intOf i').toNat)
 case atStart => exact ⟨0, by omega, rfl, rfl, ⟨rfl, rfl, rfl, Nat.le_refl _, fun _ _ _ => rfl⟩, HS.out.ext hE (below_drewN (Below.refl _ _) _), HM0.out⟩
 case round =>
  obtain ⟨q, hq, rfl, rfl, ht, hs, hmq⟩ := hrel
  have HT := Lib.hid ht
  have HSQ := Lib.hid hs
  have HMQ := Lib.hid hmq
  by_cases hqm : q < m
  ·obtain ⟨bi, oi, ci', ⟨ai', hai, _, _, hai'⟩, _, _, hci⟩ := HINS.out
   rw [HM.out] at hai hci hai'
   obtain ⟨rfl, rfl⟩ : ai = ai' ∧ ci = ci' := by simpa using hai
   obtain rfl : ai = some ⟨bi, oi, none⟩ := by rcases hai' with h | h; exact h; omega
   obtain ⟨bp, op, cp', ⟨ap', hap, _, _, hap'⟩, _, _, hcp⟩ := HVP.out
   obtain ⟨rfl, rfl⟩ : ap = ap' ∧ cp = cp' := by simpa using hap
   have hpl : q < p.length := by rw [HPP.out.2.1]; exact hqm
   obtain rfl : ap = some ⟨bp, op, none⟩ := by rcases hap' with h | h; exact h; omega
   have hcpq := hcp q hpl
   have c1 := (ht.cell (p := ⟨bp, op + q, none⟩) hcpq.2.1 (fun e => by have h1 := (hSp _ hcpq.1.1).1; unfold EnvM.P at h1; have h2 := hE.x3; have h3 := hE.o1; have h4 := hE.o2; have h5 := hE.o3; have e2 : bp = E.bm := e; omega)).trans hcpq.2.2
   have c2 := (ht.cell (p := ⟨bi, oi + q, none⟩) (by have := (hci q hqm).1; have := HS.out.sz; have := hE.x3; have := hE.o1; have := hE.o2; have := hE.o3; show bi < _; omega) (fun e => by have := (hci q hqm).1; have h2 := hE.x3; have h3 := hE.o1; have h4 := hE.o2; have h5 := hE.o3; have e2 : bi = E.bm := e; omega)).trans (hci q hqm).2
   have hpi := HPP.out.1 _ (nth_mem hpl)
   have hsp : nth (lotAt E.f.lots k).ins q < beforeI E.f k := (HLB.out.2.2.1 _ (nth_mem (by rw [HM.out]; exact hqm))).2.1
   have hval : alook (outM E.f E.a w k p al q) (nth (lotAt E.f.lots k).ins q) = some (.int .i64 (endIn E.f E.a w k q)) := by
    rw [HOL.out _ _ _ hsp (by omega)]
    obtain ⟨t, ht1, ht2, ht3⟩ := HEI.out q hqm
    rw [← ht2, ht3]
    exact HEA.out t ht1
   have hval2 : alook (outM E.f E.a w k p al (q + 1)) (nth (lotAt E.f.lots k).ins q) = some (.int .i64 (endIn E.f E.a w k q)) := by
    rw [HOL.out _ _ _ hsp (by omega), ← HOL.out al q _ hsp (by omega)]
    exact hval
   have HSTEP : Hid (outM E.f E.a w k p al (q + 1) = aset (outM E.f E.a w k p al q) (beforeI E.f k + nth p q) (.int .i64 (endIn E.f E.a w k q))) := Lib.hid rfl
   have HFS : Hid (fitN E.f E.a w k p (q + 1) = (fitN E.f E.a w k p q && leadE E.f (beforeI E.f k + nth p q) (endIn E.f E.a w k q))) := Lib.hid rfl
   obtain ⟨pi, hpi'⟩ : ∃ x, nth p q = x := ⟨_, rfl⟩
   obtain ⟨sp, hsp'⟩ : ∃ x, nth (lotAt E.f.lots k).ins q = x := ⟨_, rfl⟩
   obtain ⟨eq, heq⟩ : ∃ x, endIn E.f E.a w k q = x := ⟨_, rfl⟩
   rw [hpi'] at c1 hpi HSTEP HFS
   rw [hsp'] at c2 hsp hval hval2
   rw [heq] at hval hval2 HSTEP HFS
   have HV1 := Lib.hid hval
   have HV2 := Lib.hid hval2
   have HEQ : Hid (I64 eq) := Lib.hid (by
    obtain ⟨t, ht1, ht2, ht3⟩ := HEI.out q hqm
    rw [← heq, ht3]
    exact HA64.out t)
   have HSPL := Lib.hid hsp
   obtain ⟨hpi1, hpi2⟩ := hpi
   obtain ⟨bF, oF, cF, r1, r2, r3⟩ := hs.lots.read hk
   have m1 := hs.cx.cell
   have m3 := (HCK0.out _ ht).2
   have m4 := hs.ca.cell
   clear hai hai' hci hap hap' hcp hcpq hval hval2 hpi' hsp' heq ht hs hmq hsp
   have hwj : IntKind.i64.wrap (beforeI E.f k + pi) = beforeI E.f k + pi := IntWalk.i64_in _ (by omega)
   obtain ⟨FI, hFI⟩ : ∃ x, fitN E.f E.a w k p q = x := ⟨_, rfl⟩
   rw [hFI] at HFS ⊢
   clear hFI
   have HEN1 : Hid (EndsAt E.f E.a w k (outM E.f E.a w k p al (q + 1))) := Lib.hid (fun t ht => by rw [HOL.out _ _ _ (HPL.out t ht) (by omega)]; exact HEA.out t ht)
   have HV3 : Hid (alook (aset (outM E.f E.a w k p al q) (beforeI E.f k + pi) (.int .i64 eq)) sp = some (.int .i64 eq)) := Lib.hid (by rw [← HSTEP.out]; exact HV2.out)
   have HKM : Hid (∀ n w8, (wr.drewN n).grownBy w8 (some E.bm) → IntMap w8 E.bm (aset (outM E.f E.a w k p al q) (beforeI E.f k + pi) (.int .i64 eq)) → Turned (fun q => q = E.bm) W w8 ∧ FindS E K v k ws w w8) := Lib.hid (fun n w8 h2 h3 => by
    have h1 : Turned (fun q => q = E.bm) wr (wr.drewN n) := ⟨rfl, rfl, rfl, Nat.le_refl _, fun _ _ _ => rfl⟩
    have h4 : Turned (fun q => q = E.bm) (wr.drewN n) w8 := Turned.of_grown h2 (fun k e => by simpa using e.symm)
    rw [← HSTEP.out] at h3
    exact ⟨(HT.out.trans h1).trans h4, HSQ.out.keepM hE (h1.trans h4) h3 HEN1.out⟩)
   clear HV2
   cases FI
   ·rw [Bool.false_and] at HFS
    go_wp2
    go_quiet (fail)
    go_wp2_with (first
     | (at_lookup; refine wpList_lookup_ints rfl _ _ false rfl Tryz.underlying57 Tryz.underlying3 (Tryz.zeroValue3 _) rfl HMQ.out rfl ?_; rw [HV1.out])
     | (at_mapUpdate; refine wpList_update_ints (x := beforeI E.f k + pi) (v := .int .i64 eq) rfl _ _ _ rfl Tryz.underlying57 Tryz.underlying3 rfl HMQ.out rfl rfl ?_; intro w8 hs8 hg8 hz8; have HS8 := Lib.hid hs8; have HK8 := Lib.hid (HKM.out _ w8 hg8 hs8); clear hs8 hg8 hz8))
    exact ⟨⟨q + 1, by omega, by go_num, by rw [HFS.out], HK8.out.1, HK8.out.2, by rw [HSTEP.out]; exact HS8.out⟩, by simp [intOf]; omega⟩
   ·rw [Bool.true_and] at HFS
    obtain ⟨LE, hLE⟩ : ∃ x, leadE E.f (beforeI E.f k + pi) eq = x := ⟨_, rfl⟩
    have HLE := Lib.hid hLE
    rw [hLE] at HFS
    clear hLE
    go_wp2
    go_quiet (fail)
    go_wp2_with (first
     | (at_lookup; refine wpList_lookup_ints rfl _ _ false rfl Tryz.underlying57 Tryz.underlying3 (Tryz.zeroValue3 _) rfl HMQ.out rfl ?_; rw [HV1.out])
     | (at_mapUpdate; refine wpList_update_ints (x := beforeI E.f k + pi) (v := .int .i64 eq) rfl _ _ _ rfl Tryz.underlying57 Tryz.underlying3 rfl HMQ.out rfl rfl ?_; intro w8 hs8 hg8 hz8; have HS8 := Lib.hid hs8; have HK8 := Lib.hid (HKM.out _ w8 hg8 hs8); clear hs8 hg8 hz8; have n1 := HK8.out.2.cx.cell; have n4 := HK8.out.2.ca.cell)
     | (at_lookup; refine wpList_lookup_ints rfl _ _ false rfl Tryz.underlying57 Tryz.underlying3 (Tryz.zeroValue3 _) rfl HS8.out rfl ?_; rw [HV3.out])
     | (go_at_call 25; refine (leads_any E.C0 E.D0 _ E.q0 E.vl E.f _ _ HK8.out.2.lots hc).mono ?_; rintro e w9 ⟨rfl, rfl⟩; rw [HLE.out]))
    exact ⟨⟨q + 1, by omega, by go_num, by rw [HFS.out], HK8.out.1, HK8.out.2, by rw [HSTEP.out]; exact HS8.out⟩, by simp [intOf]; omega⟩
  ·obtain rfl : q = m := by omega
   have HT3 := Lib.hid ht
   obtain ⟨W3, hW3⟩ : ∃ x, wr = x := ⟨_, rfl⟩
   rw [hW3] at HSQ HMQ HT3 ⊢
   have HEN2 := Lib.hid (HEN.out al HEA.out)
   have m3 := (HCK0.out _ HT3.out).2
   have m4 := HSQ.out.cw.cell
   clear ht hs hmq hW3 HT
   have HSZ := Lib.hid HSQ.out.sz
   have HMK : Hid (∀ W' al', IntMap W' E.bm al' → (∀ x, x < beforeI E.f k → alook al' x = alook (outM E.f E.a w k p al q) x) → MapKeep W W' E.bm (beforeI E.f k) ∧ EndsAt E.f E.a w k al') := Lib.hid (fun W' al' h1 h2 => by
    refine ⟨fun al2 h3 => ⟨al', h1, fun x hx => ?_⟩, fun t ht => ?_⟩
    ·rw [h2 x hx, IntMap.uniq h3 HM0.out, HOL.out _ _ _ hx (by have := HPP.out.2.1; omega)]
    ·rw [h2 _ (HPL.out t ht), HOL.out _ _ _ (HPL.out t ht) (by have := HPP.out.2.1; omega)]
     exact HEA.out t ht)
   have HFR : Hid (∀ (v5 rp : Value) (W6 : World), FindS E (fun q => K q ∨ S q) v5 (k + 1) (ws ++ [rp]) (w ++ [p]) W6 → IntMap W6 E.bm (outM E.f E.a w k p al q) → Turned (fun q => q = E.cw ∨ v.ownBlock = some q) W3 W6 → (∀ g, v5.ownBlock = some g → v.ownBlock = some g ∨ W3.heap.size ≤ g) →
     FPost E K S v k ws w W none (.returned (.bool false)) W6 ∧ ∀ r e W', FPost E (fun q => K q ∨ S q) (fun q => q < E.B) v5 (k + 1) (ws ++ [rp]) (w ++ [p]) W6 r e W' → FPost E K S v k ws w W r e W') := Lib.hid (fun v5 rp W6 h1 h2 h3 h4 => by
    have hz : W.heap.size ≤ W3.heap.size := HT3.out.size
    have hta : Turned (fun q => q = E.bm ∨ q = E.cw ∨ v.ownBlock = some q) W W6 := (HT3.out.mono (fun q _ e => .inl e)).trans (h3.mono (fun q _ e => .inr e))
    have hk1 := HMK.out W6 _ h2 (fun _ _ => rfl)
    have hown5 : ∀ g, v5.ownBlock = some g → v.ownBlock = some g ∨ W.heap.size ≤ g := fun g e => by
     rcases h4 g e with h4 | h4
     ·exact .inl h4
     ·exact .inr (Nat.le_trans hz h4)
    refine ⟨⟨rfl, v5, HS.out.back hE h1 hta hown5 hw h2 hk1.2, hk1.1, hta, hown5, fun u e => by cases e⟩, ?_⟩
    rintro r e W' ⟨he, v', q1, q2, q3, q4, q5⟩
    obtain ⟨al', m1, m2⟩ := q2 _ h2
    have hmono : beforeI E.f k ≤ beforeI E.f (k + 1) := beforeI_mono (by omega)
    have hk2 := HMK.out W' al' m1 (fun x hx => m2 x (by omega))
    have htb : Turned (fun q => q = E.bm ∨ q = E.cw ∨ v.ownBlock = some q) W W' := hta.transE q3 (fun q hq e => by
     rcases e with e | e | e
     ·exact .inl e
     ·exact .inr (.inl e)
     ·rcases hown5 q e with e2 | e2
      ·exact .inr (.inr e2)
      ·omega)
    have hown6 : ∀ g, v'.ownBlock = some g → v.ownBlock = some g ∨ W.heap.size ≤ g := fun g e => by
     rcases q4 g e with e2 | e2
     ·exact hown5 g e2
     ·exact .inr (by have := hta.size; omega)
    refine ⟨he, v', HS.out.back hE q1 htb hown6 hw m1 hk2.2, hk2.1, htb, hown6, fun u hu => ?_⟩
    obtain ⟨vals, hv⟩ := q5 u hu
    refine ⟨vals, hv.mono (fun q hq _ => ?_)⟩
    rcases hq with (hq | hq) | hq | hq
    ·exact .inl hq
    ·exact .inr (.inl hq)
    ·exact .inr (.inl (hSB q hq))
    ·exact .inr (.inr (by have := hta.size; omega)))
   obtain ⟨FI, hFI⟩ : ∃ x, fitN E.f E.a w k p q = x := ⟨_, rfl⟩
   rw [hFI] at HFG ⊢
   clear hFI
   obtain ⟨RR, hRR⟩ : ∃ r, findM E.f E.a (E.f.lots.length - (k + 1)) (w ++ [p]) = r := ⟨_, rfl⟩
   have HRR := Lib.hid hRR
   rw [hRR] at HNO ⊢
   have HFC := Lib.hid (fun (W6 : World) (v5 rp : Value) (h : FindS E (fun q => K q ∨ S q) v5 (k + 1) (ws ++ [rp]) (w ++ [p]) W6) (hx : ∃ a cap, v5 = .slice a (k + 1) cap) (hgo : GoodAt E.f E.a (w ++ [p]) (k + 1)) => HF.out W6 _ v5 (ws ++ [rp]) (w ++ [p]) h hx (by simp; omega) HWO.out hgo)
   rw [hRR] at HFC
   clear hRR
   have HCKX : Hid (∀ W6, Turned (fun q => q = E.cw ∨ v.ownBlock = some q) W3 W6 → Box W6 ck #[.int .i64 (k : Int)]) := Lib.hid (fun W6 h => (HCK0.out _ HT3.out).turned h (fun e => by
    rcases e with e | e
    ·have h1 := hE.x1; have h2 := hE.o2; have h3 := hE.o3; omega
    ·exact hckv e))
   obtain ⟨av, nv, cv, rfl, hkn, hwv⟩ := HSQ.out.way
   have HWT : Hid (WayV (fun q => K q ∨ S q) E.C W3 (.slice av k cv) w ws) := Lib.hid (hwv.mono (fun q hq _ => .inl hq))
   have HSP3 : Hid (∀ q, S q → E.P q ∧ q < W3.heap.size) := Lib.hid (fun q hq => ⟨(hSp q hq).1, Nat.lt_of_lt_of_le (hSp q hq).2 HT3.out.size⟩)
   have hwvl := HWT.out.form
   have hov : (Value.slice av k cv).ownBlock = (Value.slice av nv cv).ownBlock := by cases av <;> rfl
   have HOV := Lib.hid hov
   have HVX : Hid (∀ W', Below W3.heap.size W3 W' → IsIntsX (fun q => (K q ∨ S q) ∧ (Value.slice av k cv).ownBlock ≠ some q) W' (.slice ap p.length cp) p) := Lib.hid (fun W' h => by
    rw [hov]
    exact ((HVP.out.turned HT3.out (fun q hq e => by have h1 := (hSp q hq.1).1; unfold EnvM.P at h1; have h2 := hE.x3; have h3 := hE.o1; have h4 := hE.o2; have h5 := hE.o3; omega)).mono (fun q hq => ⟨.inr hq.1, hq.2⟩)).belowX h)
   have HOWN := Lib.hid HSQ.out.own
   clear hwv hov
   obtain ⟨hkn1, hkn2⟩ := hkn
   rcases hwvl with ⟨hn1, hn2⟩ | ⟨g, cap, hn1, hn2, hn3⟩
   ·obtain ⟨rfl, rfl, rfl⟩ : av = none ∧ k = 0 ∧ cv = 0 := by simpa using hn1
    obtain rfl : nv = 0 := by omega
    clear hn1 hn2
    go_upto_region 10 with (first
     | (at_builtin; refine append_wayA rfl _ _ rfl rfl rfl (HWT.out.ext (box_below' _ _)) (World.cell?_alloc_at _ _ _ _ rfl) (HVX.out _ (box_below' _ _)) (by omega) (by have := HSZ.out; simp; omega) ?_; intro v5 w5 ho5 hg5 hat5; obtain ⟨g5, cap5, hv5e, hv5c⟩ : ∃ g cap, v5 = .slice (some ⟨g, 0, none⟩) (0 + 1) cap ∧ 0 + 1 ≤ cap := (by rcases ho5.form with e | ⟨g, cap, e, e2, _⟩; (have h1 := e.2; simp at h1); exact ⟨g, cap, by rw [e]; simp [hw], by simp [hw] at e2; omega⟩); have HAT5 := Lib.hid hat5; have HNX := Lib.hid (HSQ.out.next hE hg5 HSP3.out ho5 hv5e hv5c hw HMQ.out HEN2.out); subst hv5e; have k5 := (HSQ.out.cw.turned ((Turned.of_below (X := fun q => (Value.slice none 0 0).ownBlock = some q) (box_below' W3 _)).trans (Turned.of_grown hg5 (fun q e => e))) (fun e => by have h1 := (HWT.out.lt _ e).1; have h2 := hE.x1; have h3 := hE.o2; have h4 := hE.o3; omega)); have k6 := k5.cell; have k7 := k5.free; clear ho5 hg5 hat5 hv5c))
    refine wp_name (fun W6 hW6 => ?_)
    have HN6 := Lib.hid HNX.out.1
    have HI6 := Lib.hid HNX.out.2.1
    have HT6 := Lib.hid HNX.out.2.2
    rw [← hW6] at HN6 HI6 HT6
    have HF6 := Lib.hid (HFR.out _ _ W6 HN6.out HI6.out HT6.out (fun g e => by rcases HAT5.out with h | h; exact .inl (h.symm.trans e); (rw [h] at e; cases e; exact .inr (by simp))))
    have n1 : W6.cell? ⟨E.cf, 0, none⟩ = some (.func (.func 26) #[] #[.pointer (some ⟨E.cx, 0, none⟩), .pointer (some ⟨E.ca, 0, none⟩), .pointer (some ⟨E.cw, 0, none⟩), .pointer (some ⟨E.cf, 0, none⟩)]) := HN6.out.cf.cell
    have n2 := (HCKX.out W6 HT6.out).2
    have HCC := Lib.hid (HFC.out W6 _ _ HN6.out ⟨_, _, rfl⟩)
    clear hW6 k6 k7 m3 m4
    cases FI
    ·have hng : ¬ GoodAt E.f E.a (w ++ [p]) (0 + 1) := fun h => by have := HFG.out.2 h; cases this
     go_wp2
     go_ret
     rw [HRR.out, HNO.out hng]
     exact HF6.out.1
    ·have hgo := HFG.out.1 rfl
     have HCD := Lib.hid (HCC.out hgo)
     go_wp2_with (go_at_call 26; refine HCD.out.mono ?_; intro e W9 hpost; have HPO := Lib.hid (HF6.out.2 _ _ _ hpost); have he := hpost.1; clear hpost; subst he)
     go_ret
     rw [HRR.out]
     exact HPO.out
   ·obtain ⟨rfl, hwk, rfl⟩ : av = some ⟨g, 0, none⟩ ∧ k = w.length ∧ cv = cap := by simpa using hn1
    clear hwk
    have hkc : k ≤ cv := by omega
    clear hn1 hn2
    go_upto_region 10 with (first
     | (at_builtin; refine append_wayA rfl _ _ rfl rfl rfl (HWT.out.ext (box_below' _ _)) (World.cell?_alloc_at _ _ _ _ rfl) (HVX.out _ (box_below' _ _)) (by omega) (by have := HSZ.out; simp; omega) ?_; intro v5 w5 ho5 hg5 hat5; obtain ⟨g5, cap5, hv5e, hv5c⟩ : ∃ g cap, v5 = .slice (some ⟨g, 0, none⟩) (k + 1) cap ∧ k + 1 ≤ cap := (by rcases ho5.form with e | ⟨g, cap, e, e2, _⟩; (have h1 := e.2; simp at h1); exact ⟨g, cap, by rw [e]; simp [hw], by simp [hw] at e2; omega⟩); have HAT5 := Lib.hid hat5; have HNX := Lib.hid (HSQ.out.next hE hg5 HSP3.out ho5 hv5e hv5c hw HMQ.out HEN2.out); subst hv5e; have k5 := (HSQ.out.cw.turned ((Turned.of_below (X := fun q => (Value.slice (some ⟨g, 0, none⟩) k cv).ownBlock = some q) (box_below' W3 _)).trans (Turned.of_grown hg5 (fun q e => e))) (fun e => by have h1 := (HWT.out.lt _ e).1; have h2 := hE.x1; have h3 := hE.o2; have h4 := hE.o3; omega)); have k6 := k5.cell; have k7 := k5.free; clear ho5 hg5 hat5 hv5c))
    refine wp_name (fun W6 hW6 => ?_)
    have HN6 := Lib.hid HNX.out.1
    have HI6 := Lib.hid HNX.out.2.1
    have HT6 := Lib.hid HNX.out.2.2
    rw [← hW6] at HN6 HI6 HT6
    have HF6 := Lib.hid (HFR.out _ _ W6 HN6.out HI6.out HT6.out (fun g e => by rcases HAT5.out with h | h; exact .inl (h.symm.trans e); (rw [h] at e; cases e; exact .inr (by simp))))
    have n1 : W6.cell? ⟨E.cf, 0, none⟩ = some (.func (.func 26) #[] #[.pointer (some ⟨E.cx, 0, none⟩), .pointer (some ⟨E.ca, 0, none⟩), .pointer (some ⟨E.cw, 0, none⟩), .pointer (some ⟨E.cf, 0, none⟩)]) := HN6.out.cf.cell
    have n2 := (HCKX.out W6 HT6.out).2
    have HCC := Lib.hid (HFC.out W6 _ _ HN6.out ⟨_, _, rfl⟩)
    clear hW6 k6 k7 m3 m4
    cases FI
    ·have hng : ¬ GoodAt E.f E.a (w ++ [p]) (k + 1) := fun h => by have := HFG.out.2 h; cases this
     go_wp2
     go_ret
     rw [HRR.out, HNO.out hng]
     exact HF6.out.1
    ·have hgo := HFG.out.1 rfl
     have HCD := Lib.hid (HCC.out hgo)
     go_wp2_with (go_at_call 26; refine HCD.out.mono ?_; intro e W9 hpost; have HPO := Lib.hid (HF6.out.2 _ _ _ hpost); have he := hpost.1; clear hpost; subst he)
     go_ret
     rw [HRR.out]
     exact HPO.out
end Go.Proofs.YteiaeaciaglmgaaGreat
