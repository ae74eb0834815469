/-
  The walk of frankingref25.lot.
-/
import Derived.Test.YtndcbnnbgedgcaaR25b
import Derived.StillTailTactics
set_option linter.unusedVariables false
set_option linter.unusedSimpArgs false
namespace Go.Proofs.Ytndcbnnbgedgcaa
open Go.RowKit

/-- the part of lotB that the loop over the ins decides -/
def insOk (f : Flow) (k : Nat) (l : List Int) : Bool := l.all (fun x => decide (0 ≤ x) && decide (x < beforeI f k) && !goneB f x k)
theorem insOk_succ {f : Flow} {k i : Nat} {l : List Int} (h : i < l.length) :
    insOk f k (l.take (i + 1)) = (insOk f k (l.take i) && (decide (0 ≤ nth l i) && decide (nth l i < beforeI f k) && !goneB f (nth l i) k)) := by
  unfold insOk
  rw [List.take_succ_eq_append_getElem h, nth_lt h, List.all_append]
  simp
theorem insOk_take_false {f : Flow} {k i : Nat} {l : List Int} (h : insOk f k (l.take i) = false) : insOk f k l = false := by
  unfold insOk at *
  rw [List.all_eq_false] at *
  obtain ⟨x, hx, hp⟩ := h
  exact ⟨x, List.mem_of_mem_take hx, hp⟩
theorem lotB_eq (f : Flow) (k : Nat) : lotB f k = (decide ((lotAt f.lots k).ins ≠ []) && diffB (lotAt f.lots k).ins && insOk f k (lotAt f.lots k).ins &&
    (if (lotAt f.lots k).known then permB (lotAt f.lots k).perm (lotAt f.lots k).ins.length else decide ((lotAt f.lots k).perm = []))) := rfl

set_option maxRecDepth 100000 in
set_option maxHeartbeats 1000000 in
/-- frankingref25.lot -/
theorem lot_any (B : Nat) (w : World) (vs vl : Value) (f : Flow) (k : Nat) (hf : IsFlow B w vs vl f) (hB : B ≤ w.heap.size) (hk : k < f.lots.length) (hk2 : k ≤ 2000) (hs : f.senders ≤ 64) :
    Calls Try.prog 67 #[.agg #[vs, vl], .int .i64 k] w fun e w' => e = .returned (.bool (lotB f k)) ∧ Below w.heap.size w w' := by
  have HF := Lib.hid hf
  have HE := Lib.hid (lotB_eq f k)
  obtain ⟨rfl, ⟨hs1, _⟩, hl⟩ := hf
  have HLen := Lib.hid (beforeI_le (f := f) (fun d hd => (hl.lens d hd).1) k (by omega))
  obtain ⟨b, off, cap, ⟨a, rfl, hcap, hmax, ha⟩, hlen, hc⟩ := hl
  obtain rfl : a = some ⟨b, off, none⟩ := by rcases ha with ha | ha; exact ha; omega
  obtain ⟨vi, vk, vp, ⟨hb, c1⟩, ⟨_, c2⟩, ⟨_, c3⟩, hi, rfl, hp⟩ := hc k hk
  obtain ⟨d, hd⟩ : ∃ d, lotAt f.lots k = d := ⟨_, rfl⟩
  rw [hd] at HE hi hp c2
  have hbB : b < w.heap.size := by omega
  have HI := Lib.hid hi
  have HP := Lib.hid hp
  obtain ⟨b1, off1, cap1, ⟨a1, rfl, hcap1, hmax1, ha1⟩, hlen1, hz1, hc1⟩ := hi
  obtain ⟨b2, off2, cap2, ⟨a2, rfl, hcap2, hmax2, ha2⟩, hlen2, hz2, hc2⟩ := hp
  have HC := Lib.hid hc1
  have HB1 := Lib.hid (fun o o' => before_any B ((w.alloc o).alloc o') _ _ f k (HF.out.below (((Below.refl B w).alloc hB o).alloc (by simp; omega) o') (Nat.le_refl _)) (by simp; omega) (by omega) hk2 hs)
  obtain ⟨n, hn⟩ : ∃ n, beforeI f k = n := ⟨_, rfl⟩
  rw [hn] at HB1
  have HNd := Lib.hid hn
  clear ha hc hd hc1 hc2 ha2 hz1 hz2 hn
  go_enter Try.func67, Try.ntmps67
  go_wp2_with fail
  refine (HB1.out _ _).mono ?_
  rintro e w3 ⟨rfl, hb3⟩
  have HB3 : Hid (Below w.heap.size w w3) := Lib.hid ((((Below.refl w.heap.size w).alloc (Nat.le_refl _) _).alloc (by simp) _).trans (hb3.mono (by simp; omega)))
  have HQ : Hid (∀ W, Below w3.heap.size w3 W → W.cell? ⟨w.heap.size, 0, none⟩ = some (.int .i64 f.senders) ∧ W.cell? ⟨w.heap.size, 1, none⟩ = some (.slice (some ⟨b, off, none⟩) f.lots.length cap) ∧
      W.cell? ⟨w.heap.size + 1, 0, none⟩ = some (.slice a1 d.ins.length cap1) ∧ W.cell? ⟨w.heap.size + 1, 1, none⟩ = some (.bool d.known) ∧ W.cell? ⟨w.heap.size + 1, 2, none⟩ = some (.slice a2 d.perm.length cap2) ∧
      IsFlow B W (.int .i64 f.senders) (.slice (some ⟨b, off, none⟩) f.lots.length cap) f ∧ IsInts B W (.slice a1 d.ins.length cap1) d.ins ∧ IsInts B W (.slice a2 d.perm.length cap2) d.perm ∧ Below w.heap.size w W ∧ B ≤ W.heap.size) := by
    refine Lib.hid fun W hW => ?_
    have hsz := hb3.size
    simp at hsz
    have hBW : Below w.heap.size w W := HB3.out.trans (hW.mono (by omega))
    have hsz2 := hW.size
    refine ⟨?_, ?_, ?_, ?_, ?_, HF.out.below hBW hB, HI.out.below hBW hB, HP.out.below hBW hB, hBW, by omega⟩
    all_goals
      rw [hW.cell (by simp <;> omega), hb3.cell (by simp <;> omega)]
      simp [go_sem]
  clear hb3 hb hcap hmax c1 c2 c3
  obtain ⟨q1, q2, q3, q4, q5, q6, q7, q8, q9⟩ := HQ.out w3 (Below.refl _ _)
  have HQ7 := Lib.hid q7
  clear q6 q7 q8 q9 q1 q2 q4 q5
  by_cases h0 : d.ins.length = 0
  · have h0' : ((d.ins.length : Int) == 0) = true := by simpa using h0
    have HT : Hid (lotB f k = false) := by
      refine Lib.hid ?_
      rw [HE.out]
      have : d.ins = [] := List.eq_nil_of_length_eq_zero h0
      simp [this]
    clear h0
    go_wp2
    go_ret
    exact ⟨by rw [HT.out]; rfl, HB3.out⟩
  · have h0' : ((d.ins.length : Int) == 0) = false := by simp; intro e; exact h0 (by simp [e])
    cases hdf : diffB d.ins
    · have HT : Hid (lotB f k = false) := Lib.hid (by rw [HE.out, hdf]; simp)
      have HDF := Lib.hid hdf
      clear h0 hdf
      go_wp2_with (go_at_call 89; refine (different_any _ _ _ _ HQ7.out).mono ?_; rintro e w4 ⟨rfl, hd4⟩; have HD4 := Lib.hid hd4; clear hd4; rw [HDF.out])
      go_ret
      exact ⟨by rw [HT.out]; rfl, HB3.out.trans (HD4.out.below _)⟩
    · have HDF := Lib.hid hdf
      have HX : Hid (lotB f k = (insOk f k d.ins && if d.known then permB d.perm d.ins.length else decide (d.perm = []))) := by
        refine Lib.hid ?_
        have : d.ins ≠ [] := fun e => h0 (by rw [e]; rfl)
        rw [HE.out, hdf, decide_eq_true this]; rfl
      clear hdf h0 HE
      go_wp2_with (go_at_call 89; refine (different_any _ _ _ _ HQ7.out).mono ?_; rintro e w4 ⟨rfl, hd4⟩; have HD4 := Lib.hid hd4; clear hd4; rw [HDF.out])
      go_loopw [7] (fun i wr => ∃ j : Nat, j ≤ d.ins.length ∧ i = .int .i64 j ∧ insOk f k (d.ins.take j) = true ∧ Below w3.heap.size w3 wr) (fun i _ => d.ins.length - (intOf i).toNat)
      case atStart => exact ⟨0, by omega, rfl, rfl, HD4.out.below _⟩
      case round =>
        obtain ⟨j, hj, rfl, hno, hbr⟩ := hrel
        have HN := Lib.hid hno
        have HBR := Lib.hid hbr
        obtain ⟨q1, q2, q3, q4, q5, q6, q7, q8, q9, q10⟩ := HQ.out wr hbr
        have HQ6 := Lib.hid q6
        have HQ7 := Lib.hid q7
        have HQ8 := Lib.hid q8
        have HQ9 := Lib.hid q9
        clear hno hbr q6 q7 q8 q9
        by_cases hlt : j < d.ins.length
        · obtain rfl : a1 = some ⟨b1, off1, none⟩ := by rcases ha1 with ha | ha; exact ha; omega
          have hcell : wr.cell? ⟨b1, off1 + j, none⟩ = some (.int .i64 (nth d.ins j)) := (HQ9.out.cell (p := ⟨b1, off1 + j, none⟩) (by have := (HC.out j hlt).1; show b1 < _; omega)).trans (HC.out j hlt).2
          have HS := Lib.hid (insOk_succ (f := f) (k := k) hlt)
          rw [HNd.out] at HS
          clear ha1
          by_cases h1 : nth d.ins j < 0
          · have HT : Hid (lotB f k = false) := by
              refine Lib.hid ?_
              rw [HX.out, insOk_take_false (i := j + 1) (by rw [HS.out, decide_eq_false (by omega : ¬ 0 ≤ nth d.ins j)]; simp)]; rfl
            have h1' : decide (nth d.ins j < 0) = true := decide_eq_true h1
            go_wp2
            go_quiet (fail)
            go_wp2
            go_ret
            exact ⟨by rw [HT.out]; rfl, HQ9.out.trans ((Drew.refl wr).drewN _ |>.below _)⟩
          · have h1' : decide (nth d.ins j < 0) = false := decide_eq_false h1
            by_cases h2 : n ≤ nth d.ins j
            · have HT : Hid (lotB f k = false) := by
                refine Lib.hid ?_
                rw [HX.out, insOk_take_false (i := j + 1) (by rw [HS.out, decide_eq_false (by omega : ¬ nth d.ins j < n)]; simp)]; rfl
              have h2' : decide (n ≤ nth d.ins j) = true := decide_eq_true h2
              go_wp2
              go_quiet (fail)
              go_wp2
              go_ret
              exact ⟨by rw [HT.out]; rfl, HQ9.out.trans ((Drew.refl wr).drewN _ |>.below _)⟩
            · have h2' : decide (n ≤ nth d.ins j) = false := decide_eq_false h2
              have HG : Hid (∀ W, W.heap.size = wr.heap.size → Below wr.heap.size wr W → Calls Try.prog 44 #[.agg #[.int .i64 f.senders, .slice (some ⟨b, off, none⟩) f.lots.length cap], .int .i64 (nth d.ins j), .int .i64 k] W fun e w' => e = .returned (.bool (goneB f (nth d.ins j) k)) ∧ Below W.heap.size W w') :=
                Lib.hid fun W hW hb => gone_any B W _ _ f _ k (HQ6.out.below hb q10) (by omega) (by omega)
              go_wp2
              go_still_tail 23, (by kernel_rfl)
              change wpList _ _ _ _ _ wr.drew
              cases hg : goneB f (nth d.ins j) k
              · have HGG := Lib.hid hg
                have HT : Hid (insOk f k (d.ins.take (j + 1)) = true) := by
                  refine Lib.hid ?_
                  rw [HS.out, HN.out, decide_eq_true (by omega : 0 ≤ nth d.ins j), decide_eq_true (by omega : nth d.ins j < n), hg]; rfl
                clear hg
                go_wp2_with (go_at_call 44; refine (HG.out wr.drew rfl (Drew.refl wr |>.drewN 1 |>.below _)).mono ?_; rintro e w5 ⟨rfl, hb5⟩; have HB5 := Lib.hid hb5; clear hb5; rw [HGG.out])
                go_roundw
                case rel => exact ⟨j + 1, by omega, by go_num, HT.out, HBR.out.trans ((Drew.refl wr |>.drewN 1 |>.below _).trans (HB5.out.mono HBR.out.size))⟩
                case measure => simp [intOf]; omega
              · have HGG := Lib.hid hg
                have HT : Hid (lotB f k = false) := by
                  refine Lib.hid ?_
                  rw [HX.out, insOk_take_false (i := j + 1) (by rw [HS.out, hg]; simp)]; rfl
                clear hg
                go_wp2_with (go_at_call 44; refine (HG.out wr.drew rfl (Drew.refl wr |>.drewN 1 |>.below _)).mono ?_; rintro e w5 ⟨rfl, hb5⟩; have HB5 := Lib.hid hb5; clear hb5; rw [HGG.out])
                go_ret
                exact ⟨by rw [HT.out]; rfl, HQ9.out.trans ((Drew.refl wr |>.drewN 1 |>.below _).trans (HB5.out.mono HQ9.out.size))⟩
        · have HY : Hid (insOk f k d.ins = true) := Lib.hid (by have := HN.out; rw [List.take_of_length_le (by omega)] at this; exact this)
          cases hkn : d.known
          · have HKN := Lib.hid hkn
            have hk1 : Value.bool d.known = Value.bool false := by rw [hkn]
            by_cases hp0 : d.perm.length = 0
            · have HT : Hid (lotB f k = true) := by
                refine Lib.hid ?_
                rw [HX.out, HY.out, hkn, decide_eq_true (List.eq_nil_of_length_eq_zero hp0)]; rfl
              have hp' : ((d.perm.length : Int) == 0) = true := by simpa using hp0
              clear hp0
              go_wp2
              go_ret
              exact ⟨by rw [HT.out]; rfl, HQ9.out⟩
            · have HT : Hid (lotB f k = false) := by
                refine Lib.hid ?_
                rw [HX.out, HY.out, hkn, decide_eq_false (fun e => hp0 (by rw [e]; rfl))]; rfl
              have hp' : ((d.perm.length : Int) == 0) = false := by simp; intro e; exact hp0 (by simp [e])
              clear hp0
              go_wp2
              go_ret
              exact ⟨by rw [HT.out]; rfl, HQ9.out⟩
          · have HKN := Lib.hid hkn
            have HT : Hid (lotB f k = permB d.perm d.ins.length) := Lib.hid (by rw [HX.out, HY.out, hkn]; rfl)
            go_wp2_with (go_at_call 90; refine (perm_any _ _ _ _ _ HQ8.out).mono ?_; rintro e w5 ⟨rfl, hb5⟩; have HB5 := Lib.hid hb5; clear hb5)
            go_ret
            exact ⟨by rw [HT.out]; rfl, HQ9.out.trans (HB5.out.below _)⟩

end Go.Proofs.Ytndcbnnbgedgcaa
