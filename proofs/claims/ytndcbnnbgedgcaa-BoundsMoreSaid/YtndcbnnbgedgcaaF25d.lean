/-
  The walk of the iterator flows.ends.
-/
import Derived.Test.YtndcbnnbgedgcaaF25c
import Derived.Test.YtndcbnnbgedgcaaR26c
import Derived.Test.YtndcbnnbgedgcaaRangeOps
set_option linter.unusedVariables false
set_option linter.unusedSimpArgs false
namespace Go.Proofs.Ytndcbnnbgedgcaa
open Go.RowKit
attribute [local go_sem] Oper.semAt_some

theorem fends_any (w : World) (vs vl : Value) (f : Flow) (B : Nat) (hf : IsFlow B w vs vl f) :
    Calls Try.prog 74 #[.agg #[vs, vl]] w fun e w' => e = .returned (.func (.func 94) #[] #[.pointer (some ⟨w.heap.size, 0, none⟩)]) ∧ w' = w.alloc (.cells #[vs, vl] 24) := by
  obtain ⟨rfl, _, hl⟩ := hf
  obtain ⟨b, off, cap, ⟨a, rfl, _⟩, _⟩ := hl
  have hmf := @run_makeFunc_any Try.prog
  go_enter Try.func74, Try.ntmps74
  go_wp2
  go_ret
  exact ⟨rfl, rfl⟩

theorem endsTo_prefix (f : Flow) {k m : Nat} (h : k ≤ m) : ∃ t, endsTo f m = endsTo f k ++ t := by
  induction h with
  | refl => exact ⟨[], by simp⟩
  | @step m _ ih =>
    obtain ⟨t, ht⟩ := ih
    simp only [endsTo]
    split
    · exact ⟨t, ht⟩
    · exact ⟨t ++ [(m : Int)], by rw [ht, List.append_assoc]⟩
theorem endsTo_at (f : Flow) {k m : Nat} (h : k < m) (hg : goneB f k f.lots.length = false) : nth (endsTo f m) (endsTo f k).length = k ∧ (endsTo f k).length < (endsTo f m).length := by
  obtain ⟨t, ht⟩ := endsTo_prefix f (show k + 1 ≤ m from h)
  have e : endsTo f (k + 1) = endsTo f k ++ [(k : Int)] := by simp [endsTo, hg]
  rw [e] at ht
  rw [ht]
  constructor
  · unfold nth; simp
  · simp

set_option maxHeartbeats 2000000 in
set_option maxRecDepth 100000 in
/-- the iterator of flows.ends -/
theorem fends_iter (B bf : Nat) (w : World) (vs vl : Value) (f : Flow) (hf : IsFlow B w vs vl f) (hB : B ≤ w.heap.size) (hx : Box w bf #[vs, vl]) (h0 : checkE f = 0) :
    IterC Try.prog 94 #[.pointer (some ⟨bf, 0, none⟩)] (endsL f).length (fun i _ args => args = #[.int .i64 (nth (endsL f) i)]) (fun k => k < B ∨ k = bf) w := by
  intro l ob W J Jx hwW hob hJ hJx hst hY
  have hBw : Below B w W := hwW.below hB (fun k hk hn => hn (Or.inl hk))
  have hfW := hf.below hBw (Nat.le_refl _)
  have hBW : B ≤ W.heap.size := Nat.le_trans hB hwW.size
  have hxW := hx.turned hwW (fun hn => hn (Or.inr rfl))
  clear hf hx hwW hBw
  have HF := Lib.hid hfW
  have HX := Lib.hid hxW
  have HOB := Lib.hid hob
  have HJ := Lib.hid hJ
  have HJX := Lib.hid hJx
  have HST := Lib.hid hst
  have HY := Lib.hid hY
  have HK := Lib.hid (checkE_ok h0)
  have HI := Lib.hid (fun k (hk : k < f.lots.length) => ok_ins h0 hk)
  clear hob hJ hJx hst hY hxW h0
  obtain ⟨rfl, ⟨hs1, hs2⟩, hl⟩ := hfW
  obtain ⟨b, off, cap, ⟨a, rfl, hcap, hmax, ha⟩, hlen, hc⟩ := hl
  have HC := Lib.hid hc
  clear hc
  obtain ⟨zx, rx⟩ := HX.out
  have hmm := @run_makeMap Try.prog
  refine callsIn_of_wp Try.func94 rfl trivial ?_ rfl
  simp only [Try.ntmps94, List.size_toArray, List.length_cons, List.length_nil, Nat.reduceAdd, Nat.reduceSub, Array.replicate_succ, Array.replicate_zero, List.push_toArray, List.append_toArray, List.nil_append, List.cons_append]
  gi_wp2
  gi_loopw [4, 16] (fun m i wr => ∃ k : Nat, k ≤ f.lots.length ∧ i = .int .i64 k ∧ m = .int .i64 (beforeI f k) ∧ SetMap wr W.heap.size (goneL f k) ∧ Below W.heap.size W wr) (fun _ i _ => f.lots.length - (intOf i).toNat)
  case atStart => exact ⟨0, by omega, rfl, rfl, SetMap.made W, box_below' _ _⟩
  case round =>
    obtain ⟨k, hk, rfl, rfl, hs, hbr⟩ := hrel
    have HS := Lib.hid hs
    have HBR := Lib.hid hbr
    clear hs hbr
    by_cases hlt : k < f.lots.length
    · obtain rfl : a = some ⟨b, off, none⟩ := by rcases ha with ha | ha; exact ha; omega
      obtain ⟨vi, vk, vp, ⟨hb, c1⟩, ⟨_, c2⟩, ⟨_, c3⟩, hlot⟩ := HC.out k hlt
      have HLT := Lib.hid hlot
      obtain ⟨⟨b1, off1, cap1, ⟨a1, rfl, hc1, hm1, hai⟩, hl1, _, hcc⟩, rfl, ⟨b2, off2, cap2, ⟨a2, rfl, hc2, _⟩, hl2, _⟩⟩ := hlot
      have HCC := Lib.hid hcc
      have q1 := (HBR.out.cell (p := ⟨b, off + k * 3, none⟩) (by show b < _; omega)).trans c1
      have q2 := (HBR.out.cell (p := ⟨b, off + k * 3 + 1, none⟩) (by show b < _; omega)).trans c2
      have q3 := (HBR.out.cell (p := ⟨b, off + k * 3 + 2, none⟩) (by show b < _; omega)).trans c3
      obtain ⟨g1, g2, g3⟩ := HI.out k hlt
      have HBS : Hid (beforeI f (k + 1) = beforeI f k + (lotAt f.lots k).ins.length) := Lib.hid rfl
      have HGS : Hid (goneL f (k + 1) = goneL f k ++ (lotAt f.lots k).ins) := Lib.hid rfl
      obtain ⟨d, hd⟩ : ∃ d, lotAt f.lots k = d := ⟨_, rfl⟩
      rw [hd] at q1 q2 q3 HBS HGS hl1 hl2 hc1 hc2 HCC g1 hai
      clear hd c1 c2 c3 hcc HLT
      gi_wp2
      have HS2 := Lib.hid (HS.out.alloc (.cells #[.slice a1 d.ins.length cap1, .bool d.known, .slice a2 d.perm.length cap2] 45))
      have HB2 := Lib.hid (HBR.out.alloc (HBR.out.size) (.cells #[.slice a1 d.ins.length cap1, .bool d.known, .slice a2 d.perm.length cap2] 45))
      obtain ⟨w2, hw2⟩ : ∃ w2, wr.alloc (.cells #[.slice a1 d.ins.length cap1, .bool d.known, .slice a2 d.perm.length cap2] 45) = w2 := ⟨_, rfl⟩
      rw [hw2] at HS2 HB2 ⊢
      clear hw2 q1 q2 q3
      gi_loopw [28] (fun i Wj => ∃ j : Nat, j ≤ d.ins.length ∧ i = .int .i64 j ∧ SetMap Wj W.heap.size (goneL f k ++ d.ins.take j) ∧ w2.grownBy Wj (some W.heap.size)) (fun i _ => d.ins.length - (intOf i).toNat)
      case atStart => exact ⟨0, by omega, rfl, by simpa using HS2.out, grown_refl _ _⟩
      case round =>
        obtain ⟨j, hj, rfl, hsj, hgj⟩ := hrel
        have HSJ := Lib.hid hsj
        have HGJ := Lib.hid hgj
        have HBJ : Hid (Below W.heap.size W wr) := Lib.hid (HB2.out.grown hgj HB2.out.size (fun q hq => by cases hq; exact Nat.le_refl _))
        clear hsj hgj
        by_cases hjl : j < d.ins.length
        · obtain rfl : a1 = some ⟨b1, off1, none⟩ := by rcases hai with ha | ha; exact ha; omega
          have hcell := (HBJ.out.cell (p := ⟨b1, off1 + j, none⟩) (by have := (HCC.out j hjl).1; show b1 < _; omega)).trans (HCC.out j hjl).2
          have HTS := Lib.hid (List.take_succ_eq_append_getElem hjl)
          gi_wp2_with (gi_at_mapUpdate; refine wpListIn_update_set rfl _ _ _ rfl Try.underlying89 Try.underlying3 rfl HSJ.out rfl rfl ?_; intro w8 hs8 hg8 hz8; have HS8 := Lib.hid hs8; have HG8 := Lib.hid hg8; clear hs8 hg8 hz8)
          go_roundw
          case rel => exact ⟨j + 1, by omega, by go_num, by rw [HTS.out, ← nth_eq_getElem hjl, ← List.append_assoc]; exact HS8.out, grown_trans HGJ.out HG8.out⟩
          case measure => simp [intOf]; omega
        · obtain rfl : j = d.ins.length := by omega
          gi_wp2
          go_roundw
          case rel => exact ⟨k + 1, by omega, by go_num, by rw [HBS.out], by rw [HGS.out]; have := HSJ.out; rw [List.take_of_length_le (Nat.le_refl _)] at this; exact this, HBJ.out⟩
          case measure => simp [intOf]; omega
    · obtain rfl : k = f.lots.length := by omega
      have HN : Hid (beforeI f f.lots.length = ((beforeI f f.lots.length).toNat : Int)) := Lib.hid (by have := beforeI_mono (f := f) (Nat.zero_le f.lots.length); have := HK.out; simp only [beforeI] at *; omega)
      obtain ⟨n, hn⟩ : ∃ n, (beforeI f f.lots.length).toNat = n := ⟨_, rfl⟩
      rw [hn] at HN
      have hn5 : n ≤ 50000 := by have := HN.out; have := HK.out; omega
      have HL : Hid (endsL f = endsTo f n) := Lib.hid (by unfold endsL; rw [hn])
      clear hn
      rw [HN.out]
      gi_wp2
      obtain ⟨w9, rfl⟩ : ∃ w9 : World, w9 = wr := ⟨_, rfl⟩
      gi_loopw [37] (fun i W2 => ∃ k : Nat, k ≤ n ∧ i = .int .i64 k ∧ SetMap W2 W.heap.size (goneL f f.lots.length) ∧ w9.heap.size ≤ W2.heap.size ∧ J w9.heap.size (endsTo f k).length W2) (fun i _ => n - (intOf i).toNat)
      case atStart => exact ⟨0, by omega, rfl, HS.out, Nat.le_refl _, HST.out _ _ HBR.out.size (Nat.le_refl _) HBR.out⟩
      case round =>
        obtain ⟨k, hk, rfl, hs, hz, hj⟩ := hrel
        have HS3 := Lib.hid hs
        have HJ3 := Lib.hid hj
        have HZ3 := Lib.hid hz
        clear hs hj hz
        by_cases hlt : k < n
        · cases hg : hasB (goneL f f.lots.length) k
          · have HG := Lib.hid hg
            have hg' : goneB f k f.lots.length = false := by rw [← hasB_goneL]; exact hg
            have HSt : Hid (endsTo f (k + 1) = endsTo f k ++ [(k : Int)]) := Lib.hid (by simp [endsTo, hg'])
            obtain ⟨e1, e2⟩ := endsTo_at f hlt hg'
            rw [← HL.out] at e1 e2
            have HYY := Lib.hid (HY.out w9.heap.size (endsTo f k).length wr _ HBR.out.size HZ3.out e2 HJ3.out rfl)
            have HEnd : Hid ((endsTo f (k + 1)).length = (endsTo f k).length + 1) := Lib.hid (by rw [HSt.out]; simp)
            rw [e1] at HYY
            obtain ⟨fn, tmps, assign, body, hy, hR⟩ := HYY.out
            have HR := Lib.hid hR
            have HE2 := Lib.hid e2
            clear hg hg' e1 e2 hR
            have h1 : Fence.wide.depth.isSome = true → 1 ≤ 10 := fun _ => by omega
            gi_wp2_with (gi_at_lookup; refine wpListIn_lookup_set rfl _ _ rfl Try.underlying89 Try.underlying3 (Try.zeroValue4 _) rfl HS3.out rfl ?_; rw [HG.out])
            refine HR.out.mono ?_
            have HOW : Hid (∀ k, ob k ∨ w9.heap.size ≤ k → k ≠ W.heap.size) := Lib.hid fun q hq e => by
              rcases hq with hq | hq
              · have := (HOB.out q hq).1; omega
              · have := HBR.out.size; have := HS.out.lt; omega
            rintro e W' (⟨rfl, hJ', ht⟩ | ⟨rfl, hJx', ht⟩)
            · have HJ4 := Lib.hid hJ'
              have HT4 := Lib.hid ht
              clear hJ' ht
              gi_wp2
              go_roundw
              case rel => exact ⟨k + 1, by omega, by go_num, HS3.out.turned HT4.out (fun h => HOW.out _ h rfl), by have := HT4.out.size; have := HZ3.out; omega, by rw [HEnd.out]; exact HJ4.out⟩
              case measure => simp [intOf]; omega
            · have HJ4 := Lib.hid hJx'
              have HT4 := Lib.hid ht
              clear hJx' ht
              gi_wp2
              refine bodyPost_ret (results_none rfl _ _ _) rfl ?_
              exact ⟨⟨_, rfl⟩, w9.heap.size, HBR.out.size, by have := HT4.out.size; have := HZ3.out; omega, Or.inr ⟨_, HE2.out, HJ4.out⟩⟩
          · have HG := Lib.hid hg
            have HS : Hid (endsTo f (k + 1) = endsTo f k) := Lib.hid (by rw [hasB_goneL] at hg; simp [endsTo, hg])
            clear hg
            gi_wp2_with (gi_at_lookup; refine wpListIn_lookup_set rfl _ _ rfl Try.underlying89 Try.underlying3 (Try.zeroValue4 _) rfl HS3.out rfl ?_; rw [HG.out])
            refine ⟨fun _ h => (by cases h), ?_⟩
            gi_wp2
            go_roundw
            case rel => exact ⟨k + 1, by omega, by go_num, HS3.out, HZ3.out, by rw [HS.out]; exact HJ3.out⟩
            case measure => simp [intOf]; omega
        · obtain rfl : k = n := by omega
          gi_wp2
          go_end0
          exact ⟨⟨_, rfl⟩, w9.heap.size, HBR.out.size, HZ3.out, Or.inl (by rw [HL.out]; exact HJ3.out)⟩

end Go.Proofs.Ytndcbnnbgedgcaa
