/-
  The walks of reach.reached (the iterator) and slices.AppendSeq, slices.Collect.
-/
import Derived.Test.YtndcbnnbgedgcaaF26e
import Derived.Test.YtndcbnnbgedgcaaF25e
set_option linter.unusedVariables false
set_option linter.unusedSimpArgs false
namespace Go.Proofs.Ytndcbnnbgedgcaa
open Go.RowKit
attribute [local go_sem] Oper.semAt_some

theorem reached_any (w : World) (vs vl ve : Value) (f : Flow) (B B' : Nat) (xs : List Int) (s : Int) (hf : IsFlow B w vs vl f) (he : IsInts B' w ve xs) :
    Calls Try.prog 42 #[.agg #[vs, vl], ve, .int .i64 s] w fun e w' => e = .returned (.func (.func 76) #[] #[.pointer (some ⟨w.heap.size, 0, none⟩), .pointer (some ⟨w.heap.size + 2, 0, none⟩), .pointer (some ⟨w.heap.size + 1, 0, none⟩)]) ∧
      w' = ((w.alloc (.cells #[vs, vl] 24)).alloc (.cells #[ve] 25)).alloc (.cells #[.int .i64 s] 3) := by
  obtain ⟨rfl, _, hl⟩ := hf
  obtain ⟨b, off, cap, ⟨a, rfl, _⟩, _⟩ := hl
  obtain ⟨b', off', cap', ⟨a', rfl, _⟩, _⟩ := he
  have hmf := @run_makeFunc_any' Try.prog
  go_enter Try.func42, Try.ntmps42
  go_wp2
  go_ret
  exact ⟨rfl, rfl⟩

theorem amongTo_prefix (ends spots : List Int) {k m : Nat} (h : k ≤ m) : ∃ t, amongTo ends spots m = amongTo ends spots k ++ t := by
  induction h with
  | refl => exact ⟨[], by simp⟩
  | @step m _ ih =>
    obtain ⟨t, ht⟩ := ih
    simp only [amongTo]
    split
    · exact ⟨t ++ [nth ends m], by rw [ht, List.append_assoc]⟩
    · exact ⟨t, ht⟩
theorem amongTo_at (ends spots : List Int) {k m : Nat} (h : k < m) (hg : hasB spots (nth ends k) = true) : nth (amongTo ends spots m) (amongTo ends spots k).length = nth ends k ∧ (amongTo ends spots k).length < (amongTo ends spots m).length := by
  obtain ⟨t, ht⟩ := amongTo_prefix ends spots (show k + 1 ≤ m from h)
  have e : amongTo ends spots (k + 1) = amongTo ends spots k ++ [nth ends k] := by simp [amongTo, hg]
  rw [e] at ht
  rw [ht]
  constructor
  · unfold nth; simp
  · simp

set_option maxHeartbeats 2000000 in
set_option maxRecDepth 100000 in
/-- the iterator of reach.reached -/
theorem reached_iter (bf bs be : Nat) (w : World) (vs vl ve : Value) (f : Flow) (s : Int) (hf : IsFlow w.heap.size w vs vl f) (he : IsInts w.heap.size w ve (endsL f)) (hxf : Box w bf #[vs, vl]) (hxs : Box w bs #[.int .i64 s]) (hxe : Box w be #[ve])
    (h0 : checkE f = 0) (hs0 : 0 ≤ s) (hs1 : s < f.senders) :
    IterC Try.prog 76 #[.pointer (some ⟨bf, 0, none⟩), .pointer (some ⟨bs, 0, none⟩), .pointer (some ⟨be, 0, none⟩)] (reachL f s).length (fun i _ args => args = #[.int .i64 (nth (reachL f s) i)]) (fun k => k < w.heap.size) w := by
  intro l ob W J Jx hwW hob hJ hJx hst hY
  have hBw : Below w.heap.size w W := hwW.below (Nat.le_refl _) (fun k hk hn => hn hk)
  have hfW := hf.below hBw (Nat.le_refl _)
  have heW := he.below hBw (Nat.le_refl _)
  have hsz := hBw.size
  have HXF := Lib.hid (hxf.ext hBw)
  have HXS := Lib.hid (hxs.ext hBw)
  have HXE := Lib.hid (hxe.ext hBw)
  have HF := Lib.hid hfW
  have HOB := Lib.hid hob
  have HST := Lib.hid hst
  have HY := Lib.hid hY
  have HRL : Hid (reachL f s = amongTo (endsL f) (spotsTo f s f.lots.length) (endsL f).length) := Lib.hid rfl
  have HSP := Lib.hid (fspots_any w.heap.size W vs vl f s hfW hsz h0 hs0 hs1)
  have HMEM := Lib.hid (fun x => (endsTo_mem f x (beforeI f f.lots.length).toNat))
  have HELn := Lib.hid (endsL_len h0)
  clear hf he hxf hxs hxe hwW hBw hob hJ hJx hst hY h0
  obtain ⟨rfl, ⟨hs1', hs2'⟩, hl⟩ := hfW
  obtain ⟨b, off, cap, ⟨a, rfl, hcap, hmax, ha⟩, hlen, hc⟩ := hl
  obtain ⟨b1, off1, cap1, ⟨a1, rfl, hcap1, hmax1, ha1⟩, hlen1, hz1, hc1⟩ := heW
  have HC1 := Lib.hid hc1
  clear hc ha hc1 hz1
  have HEN : Hid (∀ k, k < (endsL f).length → 0 ≤ nth (endsL f) k ∧ nth (endsL f) k < beforeI f f.lots.length) := Lib.hid fun k hk => by
    have hm : nth (endsL f) k ∈ endsL f := by rw [nth_eq_getElem hk]; exact List.getElem_mem hk
    have := (HMEM.out _).1 hm
    omega
  obtain ⟨z1, r1⟩ := HXF.out
  obtain ⟨z2, r2⟩ := HXS.out
  obtain ⟨z3, r3⟩ := HXE.out
  refine callsIn_of_wp Try.func76 rfl trivial ?_ rfl
  simp only [Try.ntmps76, List.size_toArray, List.length_cons, List.length_nil, Nat.reduceAdd, Nat.reduceSub, Array.replicate_succ, Array.replicate_zero, List.push_toArray, List.append_toArray, List.nil_append, List.cons_append]
  gi_wp2_with fail
  refine ⟨trivial, (callsIn_wide.2 HSP.out).mono ?_⟩
  rintro e w2 ⟨bb, m, rfl, hbs, hbm, hm2, hbb, hb2⟩
  have HBS := Lib.hid hbs
  have HB2 := Lib.hid hb2
  have HX2 := Lib.hid (HXE.out.ext hb2)
  clear hbs hb2 z1 r1 z2 r2 z3 r3
  obtain ⟨z3, r3⟩ := HX2.out
  obtain ⟨ends, hends⟩ : ∃ x, endsL f = x := ⟨_, rfl⟩
  obtain ⟨spots, hspots⟩ : ∃ x, spotsTo f s f.lots.length = x := ⟨_, rfl⟩
  rw [hends] at HC1 HEN hcap1 ha1 hlen1 HRL HX2 r3 HELn HXE
  rw [hspots] at HRL HBS
  clear hends hspots
  gi_wp2
  gi_loopw [13] (fun i W2 => ∃ k : Nat, k ≤ ends.length ∧ i = .int .i64 k ∧ BitSet W2 bb m spots ∧ w2.heap.size ≤ W2.heap.size ∧ Below w.heap.size w2 W2 ∧ J w2.heap.size (amongTo ends spots k).length W2) (fun i _ => ends.length - (intOf i).toNat)
  case atStart => exact ⟨0, by omega, rfl, HBS.out, Nat.le_refl _, Below.refl _ _, HST.out _ _ HB2.out.size (Nat.le_refl _) HB2.out⟩
  case round =>
    obtain ⟨k, hk, rfl, hs, hz, hbr, hj⟩ := hrel
    have HS3 := Lib.hid hs
    have HJ3 := Lib.hid hj
    have HZ3 := Lib.hid hz
    have HB3 := Lib.hid hbr
    clear hs hj hz hbr
    by_cases hlt : k < ends.length
    · obtain rfl : a1 = some ⟨b1, off1, none⟩ := by rcases ha1 with ha | ha; exact ha; omega
      have hb1 : b1 < w.heap.size := (HC1.out k hlt).1
      have hcell := (HB3.out.cell (p := ⟨b1, off1 + k, none⟩) hb1).trans ((HB2.out.cell (p := ⟨b1, off1 + k, none⟩) (by show b1 < _; omega)).trans (HC1.out k hlt).2)
      obtain ⟨e1, e2⟩ := HEN.out k hlt
      have HHS := Lib.hid (bhas_int bb m m spots (nth ends k) wr HS3.out e1 (by omega) (by omega))
      cases hg : hasB spots (nth ends k)
      · have HG := Lib.hid hg
        have HS : Hid (amongTo ends spots (k + 1) = amongTo ends spots k) := Lib.hid (by simp [amongTo, hg])
        rw [hg] at HHS
        clear hg
        gi_wp2_with (refine ⟨trivial, ?_⟩; gi_at_call 78; refine (callsIn_wide.2 HHS.out).mono ?_; rintro e w7 ⟨rfl, hw7⟩; subst hw7)
        refine ⟨fun _ h => (by cases h), ?_⟩
        gi_wp2
        go_roundw
        case rel => exact ⟨k + 1, by omega, by go_num, HS3.out, HZ3.out, HB3.out, by rw [HS.out]; exact HJ3.out⟩
        case measure => simp [intOf]; omega
      · have HG := Lib.hid hg
        have HSt : Hid (amongTo ends spots (k + 1) = amongTo ends spots k ++ [nth ends k]) := Lib.hid (by simp [amongTo, hg])
        obtain ⟨i1, i2⟩ := amongTo_at ends spots hlt hg
        rw [← HRL.out] at i1 i2
        have HYY := Lib.hid (HY.out w2.heap.size (amongTo ends spots k).length wr _ HB2.out.size HZ3.out i2 HJ3.out rfl)
        have HEnd : Hid ((amongTo ends spots (k + 1)).length = (amongTo ends spots k).length + 1) := Lib.hid (by rw [HSt.out]; simp)
        rw [i1] at HYY
        obtain ⟨fn, tmps, assign, body, hy, hR⟩ := HYY.out
        have HR := Lib.hid hR
        have HE2 := Lib.hid i2
        rw [hg] at HHS
        clear hg i1 i2 hR
        have h1 : Fence.wide.depth.isSome = true → 1 ≤ 10 := fun _ => by omega
        gi_wp2_with (refine ⟨trivial, ?_⟩; gi_at_call 78; refine (callsIn_wide.2 HHS.out).mono ?_; rintro e w7 ⟨rfl, hw7⟩; subst hw7)
        refine HR.out.mono ?_
        have HOW : Hid (∀ k, ob k ∨ w2.heap.size ≤ k → k ≠ bb ∧ ¬ k < w.heap.size) := Lib.hid fun q hq => by
          have hlt2 := HBS.out.lt
          have hz2 := HB2.out.size
          rcases hq with hq | hq
          · have := HOB.out q hq; omega
          · omega
        rintro e W' (⟨rfl, hJ', ht⟩ | ⟨rfl, hJx', ht⟩)
        · have HJ4 := Lib.hid hJ'
          have HT4 := Lib.hid ht
          clear hJ' ht
          gi_wp2
          go_roundw
          case rel => exact ⟨k + 1, by omega, by go_num, HS3.out.turned HT4.out (fun h => (HOW.out _ h).1 rfl), by have := HT4.out.size; have := HZ3.out; omega,
            HB3.out.trans (HT4.out.below (by have := HZ3.out; have := HB2.out.size; omega) (fun q hq h => (HOW.out _ h).2 hq)), by rw [HEnd.out]; exact HJ4.out⟩
          case measure => simp [intOf]; omega
        · have HJ4 := Lib.hid hJx'
          have HT4 := Lib.hid ht
          clear hJx' ht
          gi_wp2
          refine bodyPost_ret (results_none rfl _ _ _) rfl ?_
          exact ⟨⟨_, rfl⟩, w2.heap.size, HB2.out.size, by have := HT4.out.size; have := HZ3.out; omega, Or.inr ⟨_, HE2.out, HJ4.out⟩⟩
    · obtain rfl : k = ends.length := by omega
      gi_wp2
      go_end0
      exact ⟨⟨_, rfl⟩, w2.heap.size, HB2.out.size, HZ3.out, Or.inl (by rw [HRL.out]; exact HJ3.out)⟩

end Go.Proofs.Ytndcbnnbgedgcaa
