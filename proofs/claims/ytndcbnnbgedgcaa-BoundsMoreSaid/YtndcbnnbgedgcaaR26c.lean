/-
  The walks of frankingref26.Spots, Ends, Matrix.
-/
import Derived.Test.YtndcbnnbgedgcaaR26b
set_option linter.unusedVariables false
set_option linter.unusedSimpArgs false
namespace Go.Proofs.Ytndcbnnbgedgcaa
open Go.RowKit

theorem lotB_perm {f : Flow} {k : Nat} (h : lotB f k = true) (hk : (lotAt f.lots k).known = true) : (lotAt f.lots k).perm.length = (lotAt f.lots k).ins.length := by
  rw [lotB_eq, hk] at h
  simp only [Bool.and_eq_true, if_true, permB, decide_eq_true_eq] at h
  omega
theorem ok_ins {f : Flow} (h : checkE f = 0) {k : Nat} (hk : k < f.lots.length) : (lotAt f.lots k).ins.length ≤ 50000 ∧ 0 ≤ beforeI f k ∧ beforeI f k ≤ 50000 := by
  obtain ⟨h1, h2, h3, h4, h5⟩ := checkE_ok h
  have a := beforeI_mono (f := f) (Nat.zero_le k)
  have b := beforeI_mono (f := f) (k := k + 1) (m := f.lots.length) (by omega)
  simp only [beforeI] at a b
  omega

set_option maxHeartbeats 1000000 in
/-- frankingref26.Spots -/
theorem spots26_any (B : Nat) (w : World) (vs vl : Value) (f : Flow) (s : Int) (hf : IsFlow B w vs vl f) (hB : B ≤ w.heap.size) (h0 : checkE f = 0) (hs : I64 s) :
    Calls Try.prog 68 #[.agg #[vs, vl], .int .i64 s] w fun e w' => ∃ v, e = .returned v ∧ OwnInts w.heap.size w' v (spotsTo f s f.lots.length) ∧ Below w.heap.size w w' := by
  have HF := Lib.hid hf
  have HK := Lib.hid (checkE_ok h0)
  have HI := Lib.hid (fun k (hk : k < f.lots.length) => ok_ins h0 hk)
  clear h0
  obtain ⟨rfl, ⟨hs1, hs2⟩, hl⟩ := hf
  obtain ⟨b, off, cap, ⟨a, rfl, hcap, hmax, ha⟩, hlen, hc⟩ := hl
  have HC := Lib.hid hc
  clear hc
  go_enter Try.func68, Try.ntmps68
  go_wp2
  have HO1 : Hid (OwnInts w.heap.size ((w.alloc (.cells #[.int .i64 f.senders, .slice a f.lots.length cap] 24)).alloc (.cells #[.int .i64 s] 3)) (.slice (some ⟨w.heap.size + 1, 0, none⟩) 1 1) [s]) :=
    Lib.hid (OwnInts.one hs (by simp) (by simp))
  have HX1 := Lib.hid ((Box.new w #[.int .i64 f.senders, .slice a f.lots.length cap] 24).alloc (.cells #[.int .i64 s] 3))
  have HB1 := Lib.hid (((Below.refl w.heap.size w).alloc (Nat.le_refl _) (.cells #[.int .i64 f.senders, .slice a f.lots.length cap] 24)).alloc (by simp) (.cells #[.int .i64 s] 3))
  obtain ⟨w1, hw1⟩ : ∃ w1, ((w.alloc (.cells #[.int .i64 f.senders, .slice a f.lots.length cap] 24)).alloc (.cells #[.int .i64 s] 3)) = w1 := ⟨_, rfl⟩
  rw [hw1] at HO1 HX1 HB1 ⊢
  clear hw1
  go_loopw [5, 6, 7] (fun v n i wr => ∃ k : Nat, k ≤ f.lots.length ∧ i = .int .i64 k ∧ n = .int .i64 (beforeI f k) ∧ OwnInts w.heap.size wr v (spotsTo f s k) ∧ Below w1.heap.size w1 wr) (fun _ _ i _ => f.lots.length - (intOf i).toNat)
  case atStart => exact ⟨0, by omega, rfl, rfl, HO1.out, Below.refl _ _⟩
  case round =>
    obtain ⟨k, hk, rfl, rfl, hno, hbr⟩ := hrel
    have HO := Lib.hid hno
    have HBR := Lib.hid hbr
    obtain ⟨zr, rr⟩ := HX1.out.ext hbr
    have HXR := Lib.hid (HX1.out.ext hbr)
    have HWR : Hid (Below w.heap.size w wr) := Lib.hid (HB1.out.trans (HBR.out.mono HB1.out.size))
    clear hno hbr
    by_cases hlt : k < f.lots.length
    · obtain rfl : a = some ⟨b, off, none⟩ := by rcases ha with ha | ha; exact ha; omega
      obtain ⟨vi, vk, vp, ⟨hb, c1⟩, ⟨_, c2⟩, ⟨_, c3⟩, hlot⟩ := HC.out k hlt
      have HLT := Lib.hid hlot
      obtain ⟨⟨b1, off1, cap1, ⟨a1, rfl, hc1, _⟩, hl1, _⟩, rfl, ⟨b2, off2, cap2, ⟨a2, rfl, hc2, _⟩, hl2, _⟩⟩ := hlot
      have hwr : w.heap.size ≤ wr.heap.size := HWR.out.size
      have q1 := (HWR.out.cell (p := ⟨b, off + k * 3, none⟩) (by show b < _; omega)).trans c1
      have q2 := (HWR.out.cell (p := ⟨b, off + k * 3 + 1, none⟩) (by show b < _; omega)).trans c2
      have q3 := (HWR.out.cell (p := ⟨b, off + k * 3 + 2, none⟩) (by show b < _; omega)).trans c3
      obtain ⟨g1, g2, g3⟩ := HI.out k hlt
      have HSl := Lib.hid (spotsTo_len f s k)
      have HSS : Hid (spotsTo f s (k + 1) = follTo (lotAt f.lots k) (beforeI f k) (spotsTo f s k) (lotAt f.lots k).ins.length) := Lib.hid rfl
      have HBS : Hid (beforeI f (k + 1) = beforeI f k + (lotAt f.lots k).ins.length) := Lib.hid rfl
      have HPM : Hid ((lotAt f.lots k).known = true → (lotAt f.lots k).perm.length = (lotAt f.lots k).ins.length) := Lib.hid fun h => lotB_perm (lotsB_lot HK.out.2.2.2.2 hlt) h
      obtain ⟨d, hd⟩ : ∃ d, lotAt f.lots k = d := ⟨_, rfl⟩
      rw [hd] at q1 q2 q3 HLT HSS HBS HPM g1 hl1 hl2 hc1 hc2
      have HBef : Hid (beforeI f k ≤ 50000 ∧ f.senders ≤ beforeI f k ∧ 0 ≤ f.senders) := Lib.hid ⟨g3, HSl.out.2.1, HK.out.1⟩
      clear hd c1 c2 c3
      go_wp2_with fail
      refine (follow_any wr.heap.size wr _ _ _ _ d (beforeI f k) (spotsTo f s k) ((HLT.out.below HWR.out hB).mono (by omega)) HO.out.isInts (Nat.le_refl _) HPM.out (by intro e; have := HSl.out.2.2; rw [e] at this; simp at this) g2 (by omega) (by have := HSl.out; have := HBef.out; omega) (by omega)).mono ?_
      rintro e w7 ⟨v7, rfl, ho7, hb7⟩
      have HO7 := Lib.hid ho7
      have HB7 := Lib.hid hb7
      have HX7 := Lib.hid (HXR.out.ext hb7)
      obtain ⟨z7, r7⟩ := HX7.out
      have q7 := (HB7.out.cell (p := ⟨b, off + k * 3, none⟩) (by show b < _; omega)).trans q1
      clear ho7 hb7 zr rr q1 q2 q3
      go_wp2
      go_roundw
      case rel => exact ⟨k + 1, by omega, by go_num, by rw [HBS.out], by rw [HSS.out]; exact HO7.out.mono hwr, HBR.out.trans (HB7.out.mono HBR.out.size)⟩
      case measure => simp [intOf]; omega
    · obtain rfl : k = f.lots.length := by omega
      go_wp2
      go_ret
      exact ⟨_, rfl, HO.out, HWR.out⟩

end Go.Proofs.Ytndcbnnbgedgcaa
