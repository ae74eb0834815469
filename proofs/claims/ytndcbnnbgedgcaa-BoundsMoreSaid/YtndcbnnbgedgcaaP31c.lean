/-
  Layer 31: the iterator promise.crowds.
-/
import Derived.Test.YtndcbnnbgedgcaaP31b
set_option linter.unusedVariables false
set_option linter.unusedSimpArgs false
namespace Go.Proofs.Ytndcbnnbgedgcaa
open Go.RowKit
attribute [local go_sem] Oper.semAt_some

theorem OwnInts.turned' {X : Nat → Prop} {B : Nat} {w w' : World} {v : Value} {xs : List Int} (h : OwnInts B w v xs) (ht : Turned X w w') (hx : ∀ k, B ≤ k → k < w.heap.size → ¬ X k) : OwnInts B w' v xs :=
  h.turned (X := fun k => X k ∧ k < w.heap.size) (ht.mono (fun k hk hX => ⟨hX, hk⟩)) (fun k hk hX => hx k hk hX.2 hX.1)
theorem OwnMat.turned {X : Nat → Prop} {B : Nat} {w w' : World} {v : Value} {rows : List (List Int)} (h : OwnMat B w v rows) (ht : Turned X w w') (hx : ∀ k, B ≤ k → k < w.heap.size → ¬ X k) : OwnMat B w' v rows := by
  obtain ⟨vals, ⟨h0, h1⟩, h2, h3⟩ := h
  refine ⟨vals, ⟨h0, ?_⟩, h2, fun j hj => (h3 j hj).turned' ht hx⟩
  rcases h1 with hn | ⟨g, cap, cur, hv, hb, hg, rest⟩
  · exact Or.inl hn
  · have hl := (Array.getElem?_eq_some_iff.1 hg).1
    exact Or.inr ⟨g, cap, cur, hv, hb, (ht.block g hl (hx g hb hl)).trans hg, rest⟩
theorem OwnMat.form' {B : Nat} {w : World} {v : Value} {xs : List (List Int)} (h : OwnMat B w v xs) : ∃ a cap, v = .slice a xs.length cap := by
  obtain ⟨b, off, cap, ⟨a, rfl, _⟩, _⟩ := h.isMat
  exact ⟨_, _, rfl⟩
theorem matTo_row (f : Flow) {j : Nat} : ∀ k, j < k → rowAt (matTo f k) j = reachL f j
  | 0, h => by omega
  | k + 1, h => by
    by_cases e : j < k
    · rw [← matTo_row f k e]
      simp only [matTo, rowAt, List.getD_eq_getElem?_getD]
      rw [List.getElem?_append_left (by rw [matTo_len]; exact e)]
    · obtain rfl : j = k := by omega
      simp only [matTo, rowAt, List.getD_eq_getElem?_getD]
      rw [List.getElem?_append_right (by rw [matTo_len]; exact Nat.le_refl _), matTo_len]
      simp

theorem crowds_any (w : World) (vs vl : Value) (f : Flow) (B : Nat) (hf : IsFlow B w vs vl f) :
    Calls Try.prog 36 #[.agg #[vs, vl]] w fun e w' => e = .returned (.func (.func 72) #[] #[.pointer (some ⟨w.heap.size, 0, none⟩)]) ∧ w' = w.alloc (.cells #[vs, vl] 24) := by
  obtain ⟨rfl, _, hl⟩ := hf
  obtain ⟨b, off, cap, ⟨a, rfl, _⟩, _⟩ := hl
  have hmf := @run_makeFunc_any Try.prog
  go_enter Try.func36, Try.ntmps36
  go_wp2
  go_ret
  exact ⟨rfl, rfl⟩

set_option maxHeartbeats 2000000 in
set_option maxRecDepth 100000 in
/-- the iterator of promise.crowds -/
theorem crowds_iter (B bf n : Nat) (w : World) (vs vl : Value) (f : Flow) (hf : IsFlow B w vs vl f) (hB : B ≤ w.heap.size) (hxf : Box w bf #[vs, vl]) (h0 : checkE f = 0) (hn : f.senders = (n : Int)) :
    IterC Try.prog 72 #[.pointer (some ⟨bf, 0, none⟩)] n (fun i _ args => args = #[.int .i64 i, .int .i64 ((reachL f i).length : Int)]) (fun k => k < B ∨ k = bf) w := by
  intro l ob W J Jx hwW hob hJ hJx hst hY
  have hBw : Below B w W := hwW.below hB (fun k hk hn => hn (Or.inl hk))
  have hfW := hf.below hBw (Nat.le_refl _)
  have hsz := Nat.le_trans hB hwW.size
  have HXF := Lib.hid (hxf.turned hwW (fun hn => hn (Or.inr rfl)))
  have HF := Lib.hid hfW
  have HOB := Lib.hid hob
  have HST := Lib.hid hst
  have HY := Lib.hid hY
  have HMT := Lib.hid (rmatrix_any B W vs vl f hfW hsz)
  have HR : Hid (matR f = matTo f n) := Lib.hid (by unfold matR; rw [if_pos h0, hn]; rfl)
  have HLn := Lib.hid (matTo_len f n)
  have hn64 : n ≤ 64 := by have := checkE_ok h0; omega
  clear hf hxf hwW hBw hB hob hJ hJx hst hY h0 hn
  obtain ⟨rfl, ⟨hs1', hs2'⟩, hl⟩ := hfW
  obtain ⟨b, off, cap, ⟨a, rfl, hcap, hmax, ha⟩, hlen, hc⟩ := hl
  clear hc ha
  obtain ⟨z1, r1⟩ := HXF.out
  refine callsIn_of_wp Try.func72 rfl trivial ?_ rfl
  simp only [Try.ntmps72, List.size_toArray, List.length_cons, List.length_nil, Nat.reduceAdd, Nat.reduceSub, Array.replicate_succ, Array.replicate_zero, List.push_toArray, List.append_toArray, List.nil_append, List.cons_append]
  gi_wp2_with fail
  refine ⟨trivial, (callsIn_wide.2 HMT.out).mono ?_⟩
  rintro e w2 ⟨m, rfl, ho2, hb2⟩
  rw [HR.out] at ho2
  have HO2 := Lib.hid ho2
  have HB2 := Lib.hid hb2
  obtain ⟨am, cm, rfl⟩ := ho2.form'
  rw [HLn.out] at HO2 ⊢
  clear ho2 hb2 z1 r1
  gi_wp2
  gi_loopw [14] (fun i W2 => ∃ k : Nat, k ≤ n ∧ i = .int .i64 k ∧ Turned (fun k => ob k ∨ w2.heap.size ≤ k) w2 W2 ∧ J w2.heap.size k W2) (fun i _ => n - (intOf i).toNat)
  case atStart => exact ⟨0, by omega, rfl, Turned.refl _ _, HST.out _ _ HB2.out.size (Nat.le_refl _) HB2.out⟩
  case round =>
    obtain ⟨k, hk, rfl, ht, hj⟩ := hrel
    have HOR := Lib.hid (HO2.out.turned ht (fun k hk1 hk2 hk => by rcases hk with hk | hk; have := HOB.out k hk; omega; omega))
    have HT := Lib.hid ht
    have HJ3 := Lib.hid hj
    clear ht hj
    by_cases hlt : k < n
    · have HSZ := Lib.hid HB2.out.size
      have HYY := Lib.hid (HY.out w2.heap.size k wr _ HB2.out.size HT.out.size hlt HJ3.out rfl)
      obtain ⟨fn, tmps, assign, body, hy, hR⟩ := HYY.out
      have HRR := Lib.hid hR
      obtain ⟨bm, om, cm', ⟨am', hv, hcm, hmm, ham⟩, hlm, hcc⟩ := HOR.out.isMat
      obtain ⟨r, ⟨hbm, hcell⟩, hrow⟩ := hcc k (by rw [HLn.out]; exact hlt)
      rw [matTo_row f n hlt] at hrow
      obtain ⟨b1, off1, cap1, ⟨a1, rfl, hcap1, hmax1, ha1⟩, hlen1, hz1, hc1⟩ := hrow
      rw [HLn.out] at hv hcm ham
      cases hv
      obtain rfl : am = some ⟨bm, om, none⟩ := by rcases ham with ha | ha; exact ha; omega
      clear hR hc1 ha1 hz1 hcc
      have h1 : Fence.wide.depth.isSome = true → 1 ≤ 10 := fun _ => by omega
      gi_wp2_with fail
      refine HRR.out.mono ?_
      rintro e W' (⟨rfl, hJ', ht⟩ | ⟨rfl, hJx', ht⟩)
      · have HJ4 := Lib.hid hJ'
        have HT4 := Lib.hid ht
        clear hJ' ht hcell
        gi_wp2
        go_roundw
        case rel => exact ⟨k + 1, by omega, by go_num, HT.out.trans HT4.out, HJ4.out⟩
        case measure => simp [intOf]; omega
      · have HJ4 := Lib.hid hJx'
        have HT4 := Lib.hid ht
        clear hJx' ht hcell
        gi_wp2
        refine bodyPost_ret (results_none rfl _ _ _) rfl ?_
        exact ⟨⟨_, rfl⟩, w2.heap.size, HB2.out.size, by have := HT4.out.size; have := HT.out.size; omega, Or.inr ⟨_, hlt, HJ4.out⟩⟩
    · obtain rfl : k = n := by omega
      gi_wp2
      go_end0
      exact ⟨⟨_, rfl⟩, w2.heap.size, HB2.out.size, HT.out.size, Or.inl HJ3.out⟩

end Go.Proofs.Ytndcbnnbgedgcaa
