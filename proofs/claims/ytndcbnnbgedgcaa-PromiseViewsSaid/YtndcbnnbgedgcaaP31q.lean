/-
  Layer 31: the walk of PromiseViews.
-/
import Derived.Test.YtndcbnnbgedgcaaF25w
import Derived.Test.YtndcbnnbgedgcaaS31c
import Derived.Shelf.Spec.TrailingZeros
set_option linter.unusedVariables false
set_option linter.unusedSimpArgs false
namespace Go.Proofs.Ytndcbnnbgedgcaa
open Go.RowKit

theorem and_one32v (n : Nat) (hn : n < 4294967296) (k : Nat) : (bits BinOp.and IntKind.u32 ((n : Int) / 2 ^ k) 1 == 1) = n.testBit k := by
  have e : ((n : Int) / 2 ^ k) = ((n / 2 ^ k : Nat) : Int) := by simp
  have h1 : n / 2 ^ k < 4294967296 := Nat.lt_of_le_of_lt (Nat.div_le_self _ _) hn
  rw [e, show (1 : Int) = ((1 : Nat) : Int) from rfl, bits_and_u32_nat _ _ h1 (by omega)]
  rw [Nat.testBit_eq_decide_div_mod_eq, Nat.and_one_is_mod, Bool.eq_iff_iff]
  simp only [beq_iff_eq, decide_eq_true_eq]
  omega

/-! ### the smaller coalition is one -/
theorem pickTo_subl (l : List Int) (b : Nat) : ∀ i, i ≤ l.length → (pickTo l b i).Sublist (l.take i)
  | 0, _ => by simp [pickTo]
  | i + 1, h => by
    have ih := pickTo_subl l b i (by omega)
    simp only [pickTo]
    rw [List.take_succ_eq_append_getElem (by omega)]
    split
    · rw [nth_eq_getElem (by omega)]
      exact ih.append (List.Sublist.refl _)
    · exact List.Sublist.trans ih (List.sublist_append_left _ _)
theorem srtB_pairwise {l : List Int} (h : srtB l = true) : l.Pairwise (· ≤ ·) := by
  unfold srtB at h
  rw [List.all_eq_true] at h
  have key : ∀ d i, i + d < l.length → nth l i ≤ nth l (i + d) := by
    intro d
    induction d with
    | zero => intro i _; exact Int.le_refl _
    | succ d ih =>
      intro i hi
      have h1 := ih i (by omega)
      have h2 := of_decide_eq_true (h (i + d) (List.mem_range.2 (by omega)))
      exact Int.le_trans h1 h2
  rw [List.pairwise_iff_getElem]
  intro i j hi hj hij
  have := key (j - i) i (by omega)
  rw [show i + (j - i) = j by omega, nth_eq_getElem hi, nth_eq_getElem hj] at this
  exact this
theorem srtB_of_pairwise {l : List Int} (h : l.Pairwise (· ≤ ·)) : srtB l = true := by
  refine srtB_true fun j hj => ?_
  have := List.pairwise_iff_getElem.1 h j (j + 1) (by omega) hj (by omega)
  rw [nth_eq_getElem hj, nth_eq_getElem (show j < l.length by omega)]
  exact this
theorem view_less {f : Flow} {lines : List (List Int)} {c : List Int} (b : Nat) (h : viewE f lines c = 0) : viewE f lines (pickTo c b c.length) = 0 ∧ checkE f = 0 ∧ knownB f = true := by
  unfold viewE at *
  split at h
  · rename_i hc; exact absurd h hc
  · rename_i hc
    have hc : checkE f = 0 := by simpa using hc
    split at h
    · rename_i hv
      have hs := pickTo_subl c b c.length (Nat.le_refl _)
      rw [List.take_of_length_le (Nat.le_refl _)] at hs
      unfold viewOk at *
      simp only [Bool.and_eq_true] at hv
      obtain ⟨v1, v2, v3, ⟨v4, v5⟩, v6⟩ := hv
      refine ⟨?_, hc, v1⟩
      have w4 : diffB (pickTo c b c.length) = true := by
        unfold diffB at *
        exact decide_eq_true (List.Sublist.nodup hs (of_decide_eq_true v4))
      have w5 : allB (pickTo c b c.length) officeB = true := by
        unfold allB at *
        rw [List.all_eq_true] at *
        exact fun x hx => v5 x (hs.subset hx)
      have w6 : srtB (pickTo c b c.length) = true := srtB_of_pairwise (List.Pairwise.sublist hs (srtB_pairwise v6))
      rw [if_neg (by simp [hc]), v1, v2, v3, w4, w5, w6]
      rfl
    · simp at h
theorem pickTo_sub {c : List Int} {b : Nat} : ∀ x ∈ pickTo c b c.length, x ∈ c := by
  have hs := pickTo_subl c b c.length (Nat.le_refl _)
  rw [List.take_of_length_le (Nat.le_refl _)] at hs
  exact fun x hx => hs.subset hx

set_option maxHeartbeats 4000000 in
set_option maxRecDepth 100000 in
/-- PromiseViews -/
theorem promiseViews_any (B : Nat) (w : World) (vs vl vm vc : Value) (f : Flow) (lines : List (List Int)) (c : List Int) (q : Nat) (s : Int) (hf : IsFlow B w vs vl f) (hm : IsMat B w vm lines) (hc : IsInts B w vc c) (hB : B ≤ w.heap.size) (hs : I64 s) (hq : q < 4294967296) :
    Calls Try.prog 8 #[.agg #[vs, vl], vm, vc, .int .u32 q, .int .i64 s] w fun e w' => e = .returned (.bool true) ∧ Below w.heap.size w w' := by
  have HF := Lib.hid hf
  have HM := Lib.hid hm
  have HC := Lib.hid hc
  obtain ⟨rfl, ⟨hs1, hs2⟩, hl⟩ := hf
  obtain ⟨b, off, cap, ⟨a, rfl, hcap, hmax, ha⟩, hlen, hcl⟩ := hl
  obtain ⟨b1, off1, cap1, ⟨a1, rfl, hcap1, hmax1, ha1⟩, hlen1, hcm⟩ := hm
  obtain ⟨b2, off2, cap2, ⟨a2, rfl, hcap2, hmax2, ha2⟩, hlen2, hz2, hcc⟩ := hc
  have HCC := Lib.hid hcc
  have HA2 := Lib.hid ha2
  have HZ2 := Lib.hid hz2
  clear hcl hcm hcc hz2 ha ha1 ha2
  go_enter Try.func8, Try.ntmps8
  go_wp2_with fail
  refine (sane31_any _).mono ?_
  rintro e w1 ⟨rfl, hb1⟩
  have HX1 := Lib.hid ((Box.new w #[.int .i64 f.senders, .slice a f.lots.length cap] 24).ext hb1)
  have HW1 : Hid (Below w.heap.size w w1) := Lib.hid ((box_below (Nat.le_refl _) _).trans (hb1.mono (by simp)))
  obtain ⟨z1, r1⟩ := HX1.out
  clear hb1
  go_wp2_with fail
  refine (few31_any B w1 _ _ f (HF.out.below HW1.out hB) (by have := HW1.out.size; omega)).mono ?_
  rintro e w2 ⟨rfl, hb2⟩
  have HX2 := Lib.hid (HX1.out.ext hb2)
  have HW2 : Hid (Below w.heap.size w w2) := Lib.hid (HW1.out.trans (hb2.mono HW1.out.size))
  clear hb2 z1 r1
  cases hfew : few26 f
  · clear hfew
    go_wp2
    go_ret
    exact ⟨rfl, HW2.out⟩
  · clear hfew
    obtain ⟨z2, r2⟩ := HX2.out
    by_cases hl20 : lines.length > 20
    · have hl20' : decide ((20 : Int) < (lines.length : Int)) = true := decide_eq_true (by omega)
      go_wp2
      go_ret
      exact ⟨rfl, HW2.out⟩
    · have hl20' : decide ((20 : Int) < (lines.length : Int)) = false := decide_eq_false (by omega)
      by_cases hc24 : c.length > 24
      · have hc24' : decide ((24 : Int) < (c.length : Int)) = true := decide_eq_true (by omega)
        go_wp2
        go_ret
        exact ⟨rfl, HW2.out⟩
      · have hc24' : decide ((24 : Int) < (c.length : Int)) = false := decide_eq_false (by omega)
        go_wp2_with fail
        refine (view_any B w2 _ _ _ _ f lines c (HF.out.below HW2.out hB) (HM.out.below HW2.out hB) (HC.out.below HW2.out hB) (by have := HW2.out.size; omega)).mono ?_
        rintro e w3 ⟨vx, rfl, hx3, hb3⟩
        have HX3 := Lib.hid (HX2.out.ext hb3)
        have HW3 : Hid (Below w.heap.size w w3) := Lib.hid (HW2.out.trans (hb3.mono HW2.out.size))
        have HXL := Lib.hid hx3
        obtain ⟨bx, ox, cx, ⟨ax, rfl, _⟩, _⟩ := hx3
        clear hb3 z2 r2
        obtain ⟨z3, r3⟩ := HX3.out
        by_cases h0 : viewE f lines c = 0
        · have h0' : (viewE f lines c != 0) = false := by simpa using h0
          have HLS := Lib.hid (view_less q h0)
          have HVR : Hid (viewR f lines c = viewF f lines c) := Lib.hid (by unfold viewR; rw [if_pos h0])
          have HSX : Hid (IsFlow w3.heap.size w3 (.int .i64 f.senders) (.slice ax (viewF f lines c).lots.length cx) (viewF f lines c)) := Lib.hid ⟨rfl, HF.out.2.1, by have := HXL.out; rw [HVR.out] at this; exact this⟩
          have HCK := Lib.hid HLS.out.2.1
          have HKN := Lib.hid (knownB_all HLS.out.2.2)
          have HLAW : Hid (reachE f s = 0 → (reachR f s).length = 1 ∧ 1 ≤ (reachR (viewF f lines c) s).length ∧ (reachR (viewF f lines c) s).length ≤ (reachR (viewF f lines (pickTo c q c.length)) s).length) := Lib.hid fun h => views_law h HKN.out pickTo_sub
          have HRE : Hid (∀ c', reachE (viewF f lines c') s = reachE f s) := Lib.hid fun c' => view_reachE HCK.out
          have HVR2 : Hid (viewR f lines (pickTo c q c.length) = viewF f lines (pickTo c q c.length)) := Lib.hid (by unfold viewR; rw [if_pos HLS.out.1])
          rw [HVR.out]
          clear h0
          obtain ⟨nx, hnx⟩ : ∃ n, (viewF f lines c).lots.length = n := ⟨_, rfl⟩
          rw [hnx] at HSX ⊢
          have hes : (viewF f lines c).senders = f.senders := rfl
          rw [hes]
          clear hnx hes
          obtain ⟨w4, hw4⟩ : ∃ W, w3.alloc (.cells #[.int .i64 f.senders, .slice ax nx cx] 24) = W := ⟨_, rfl⟩
          have HX4 : Hid (Box w4 w.heap.size #[.int .i64 f.senders, .slice a f.lots.length cap]) := Lib.hid (by rw [← hw4]; exact HX3.out.alloc _)
          have HBX4 : Hid (Box w4 w3.heap.size #[.int .i64 f.senders, .slice ax nx cx]) := Lib.hid (by rw [← hw4]; exact Box.new _ _ _)
          have HW4 : Hid (Below w.heap.size w w4) := Lib.hid (by rw [← hw4]; exact HW3.out.alloc HW3.out.size _)
          have HSX4 : Hid (IsFlow w3.heap.size w4 (.int .i64 f.senders) (.slice ax nx cx) (viewF f lines c)) := Lib.hid (by rw [← hw4]; exact HSX.out.below (box_below' w3 _) (Nat.le_refl _))
          have HZ34 : Hid (w3.heap.size < w4.heap.size) := Lib.hid (by rw [← hw4]; simp)
          clear z3 r3
          go_wp2
          clear hw4
          go_loopw [13, 14] (fun vn vi wr => ∃ k : Nat, k ≤ c.length ∧ vi = .int .i64 k ∧ OwnInts w4.heap.size wr vn (pickTo c q k) ∧ Below w4.heap.size w4 wr) (fun _ vi _ => c.length - (intOf vi).toNat)
          case atStart => exact ⟨0, by omega, rfl, OwnInts.nil _ _, Below.refl _ _⟩
          case round =>
            obtain ⟨k, hk, rfl, hvn, hbr⟩ := hrel
            have HO := Lib.hid hvn
            have HBR := Lib.hid hbr
            clear hvn hbr
            by_cases hlt : k < c.length
            · obtain rfl : a2 = some ⟨b2, off2, none⟩ := by rcases HA2.out with ha | ha; exact ha; omega
              have HA := Lib.hid (and_one32v q hq k)
              have HPL := Lib.hid (pickTo_len c q k)
              have hcell := ((HW4.out.trans (HBR.out.mono HW4.out.size)).cell (p := ⟨b2, off2 + k, none⟩) (by have := (HCC.out k hlt).1; show b2 < _; omega)).trans (HCC.out k hlt).2
              have hzk : I64 (nth c k) := HZ2.out _ (nth_mem hlt)
              have HZK := Lib.hid hzk
              clear hzk
              cases hbit : q.testBit k
              · have HS : Hid (pickTo c q (k + 1) = pickTo c q k) := Lib.hid (by simp [pickTo, hbit])
                have hA := HA.out
                rw [hbit] at hA
                clear hbit
                go_wp2
                go_roundw
                case rel => exact ⟨k + 1, by omega, by go_num, by rw [HS.out]; exact HO.out, HBR.out⟩
                case measure => simp [intOf]; omega
              · have HS : Hid (pickTo c q (k + 1) = pickTo c q k ++ [nth c k]) := Lib.hid (by simp [pickTo, hbit])
                have hA := HA.out
                rw [hbit] at hA
                clear hbit
                go_wp2_with (at_builtin; refine append_int (n := nth c k) rfl _ _ rfl rfl (HO.out.alloc _) rfl (World.cell?_alloc_at _ _ _ _ rfl) HZK.out (by have := HPL.out; omega) (by have := HBR.out.size; simp; omega) ?_; intro v6 w6 ho6 hg6; have HO6 := Lib.hid ho6; have HB6 : Hid (Below w4.heap.size w4 w6) := Lib.hid ((HBR.out.alloc HBR.out.size _).grown hg6 (by have := HBR.out.size; simp; omega) (fun j hj => (HO.out.1.lt j hj).1)); clear ho6 hg6)
                go_roundw
                case rel => exact ⟨k + 1, by omega, by go_num, by rw [HS.out]; exact HO6.out, HB6.out⟩
                case measure => simp [intOf]; omega
            · obtain rfl : k = c.length := by omega
              have HWR : Hid (Below w.heap.size w wr) := Lib.hid (HW4.out.trans (HBR.out.mono HW4.out.size))
              have HXR := Lib.hid (HX4.out.ext HBR.out)
              have HBXR := Lib.hid (HBX4.out.ext HBR.out)
              have HSXR := Lib.hid (HSX4.out.below HBR.out (by have := HZ34.out; omega))
              have HIP := Lib.hid HO.out.isInts
              obtain ⟨an, cn, rfl, _⟩ := HO.out.form
              obtain ⟨zr, rr⟩ := HXR.out
              obtain ⟨c', hc'⟩ : ∃ l, pickTo c q c.length = l := ⟨_, rfl⟩
              rw [hc'] at HIP HLAW HVR2 HLS ⊢
              clear hc'
              go_wp2_with fail
              refine (view_any wr.heap.size wr _ _ _ _ f lines c' ((HF.out.below HWR.out hB).mono (by have := HWR.out.size; omega)) ((HM.out.below HWR.out hB).mono (by have := HWR.out.size; omega)) HIP.out (Nat.le_refl _)).mono ?_
              rintro e w5 ⟨vy, rfl, hx5, hb5⟩
              have HX5 := Lib.hid (HXR.out.ext hb5)
              have HBX5 := Lib.hid (HBXR.out.ext hb5)
              have HW5 : Hid (Below w.heap.size w w5) := Lib.hid (HWR.out.trans (hb5.mono HWR.out.size))
              have HSX5 := Lib.hid (HSXR.out.below hb5 (by have := HBR.out.size; have := HZ34.out; omega))
              have HZ5 : Hid (w3.heap.size < w5.heap.size) := Lib.hid (by have := HZ34.out; have := HBR.out.size; have := hb5.size; omega)
              rw [HVR2.out] at hx5
              rw [HVR2.out, HLS.out.1]
              have hes : (viewF f lines c').senders = f.senders := rfl
              rw [hes]
              have HSY5 : Hid (IsFlow w5.heap.size w5 (.int .i64 f.senders) vy (viewF f lines c')) := Lib.hid ⟨rfl, HF.out.2.1, hx5⟩
              obtain ⟨by5, oy5, cy5, ⟨ay5, rfl, _⟩, _⟩ := hx5
              clear hb5 zr rr hes
              obtain ⟨ny, hny⟩ : ∃ n, (viewF f lines c').lots.length = n := ⟨_, rfl⟩
              rw [hny] at HSY5 ⊢
              clear hny
              obtain ⟨w6, hw6⟩ : ∃ W, w5.alloc (.cells #[.int .i64 f.senders, .slice ay5 ny cy5] 24) = W := ⟨_, rfl⟩
              have HX6 : Hid (Box w6 w.heap.size #[.int .i64 f.senders, .slice a f.lots.length cap]) := Lib.hid (by rw [← hw6]; exact HX5.out.alloc _)
              have HBX6 : Hid (Box w6 w3.heap.size #[.int .i64 f.senders, .slice ax nx cx]) := Lib.hid (by rw [← hw6]; exact HBX5.out.alloc _)
              have HBY6 : Hid (Box w6 w5.heap.size #[.int .i64 f.senders, .slice ay5 ny cy5]) := Lib.hid (by rw [← hw6]; exact Box.new _ _ _)
              have HW6 : Hid (Below w.heap.size w w6) := Lib.hid (by rw [← hw6]; exact HW5.out.alloc HW5.out.size _)
              have HSX6 : Hid (IsFlow w3.heap.size w6 (.int .i64 f.senders) (.slice ax nx cx) (viewF f lines c)) := Lib.hid (by rw [← hw6]; exact HSX5.out.below (box_below' w5 _) (by have := HZ5.out; omega))
              have HSY6 : Hid (IsFlow w5.heap.size w6 (.int .i64 f.senders) (.slice ay5 ny cy5) (viewF f lines c')) := Lib.hid (by rw [← hw6]; exact HSY5.out.below (box_below' w5 _) (Nat.le_refl _))
              have HZ6 : Hid (w3.heap.size < w6.heap.size ∧ w5.heap.size < w6.heap.size) := Lib.hid (by rw [← hw6]; have := HZ5.out; simp; omega)
              obtain ⟨y6, q6⟩ := HBX6.out
              obtain ⟨LX, hLX⟩ : ∃ n, (reachR (viewF f lines c) s).length = n := ⟨_, rfl⟩
              obtain ⟨LY, hLY⟩ : ∃ n, (reachR (viewF f lines c') s).length = n := ⟨_, rfl⟩
              obtain ⟨LF, hLF⟩ : ∃ n, (reachR f s).length = n := ⟨_, rfl⟩
              have HKX := Lib.hid (crowd_any w3.heap.size w6 _ _ (viewF f lines c) s HSX6.out (by have := HZ6.out; omega) hs)
              rw [hLX, HRE.out] at HKX
              have HKY : Hid (∀ W, Below w6.heap.size w6 W → Calls Try.prog 13 #[.agg #[.int .i64 f.senders, .slice ay5 ny cy5], .int .i64 s] W fun e w' => e = .returned (.tuple #[.int .i64 (LY : Int), .int .i64 (reachE f s)]) ∧ Below W.heap.size W w') := Lib.hid fun W hW => by
                have := crowd_any w5.heap.size W _ _ (viewF f lines c') s (HSY6.out.below hW (by have := HZ6.out; omega)) (by have := HZ6.out; have := hW.size; omega) hs
                rw [hLY, HRE.out] at this
                exact this
              have HKF : Hid (∀ W, Below w6.heap.size w6 W → Calls Try.prog 13 #[.agg #[.int .i64 f.senders, .slice a f.lots.length cap], .int .i64 s] W fun e w' => e = .returned (.tuple #[.int .i64 (LF : Int), .int .i64 (reachE f s)]) ∧ Below W.heap.size W w') := Lib.hid fun W hW => by
                have := crowd_any B W _ _ f s (HF.out.below (HW6.out.trans (hW.mono HW6.out.size)) hB) (by have := HW6.out.size; have := hW.size; omega) hs
                rw [hLF] at this
                exact this
              rw [hLX, hLY, hLF] at HLAW
              clear hLX hLY hLF
              obtain ⟨er, her⟩ : ∃ n, reachE f s = n := ⟨_, rfl⟩
              rw [her] at HKX HKY HKF HLAW
              clear her
              go_wp2_with fail
              refine HKX.out.mono ?_
              rintro e w7 ⟨rfl, hb7⟩
              have HBY7 := Lib.hid (HBY6.out.ext hb7)
              have HX7 := Lib.hid (HX6.out.ext hb7)
              have HB7 := Lib.hid hb7
              clear hb7 y6 q6 hw6
              obtain ⟨y7, q7⟩ := HBY7.out
              go_wp2_with fail
              refine (HKY.out w7 HB7.out).mono ?_
              rintro e w8 ⟨rfl, hb8⟩
              have HX8 := Lib.hid (HX7.out.ext hb8)
              have HB8 : Hid (Below w6.heap.size w6 w8) := Lib.hid (HB7.out.trans (hb8.mono HB7.out.size))
              clear hb8 y7 q7
              obtain ⟨y8, q8⟩ := HX8.out
              go_wp2_with fail
              refine (HKF.out w8 HB8.out).mono ?_
              rintro e w9 ⟨rfl, hb9⟩
              have HW9 : Hid (Below w.heap.size w w9) := Lib.hid (HW6.out.trans ((HB8.out.trans (hb9.mono HB8.out.size)).mono HW6.out.size))
              clear hb9 y8 q8
              have hee : (er != er) = false := by simp
              by_cases he0 : er = 0
              · have HL := Lib.hid (HLAW.out he0)
                have he0' : (er != 0) = false := by simpa using he0
                have g1 : ((LF : Int) == 1) = true := by rw [HL.out.1]; rfl
                have g2 : 1 ≤ LX := HL.out.2.1
                have g3 : LX ≤ LY := HL.out.2.2
                have g2' : decide ((1 : Int) ≤ (LX : Int)) = true := decide_eq_true (by omega)
                have g3' : decide ((LX : Int) ≤ (LY : Int)) = true := decide_eq_true (by omega)
                clear he0
                go_wp2
                go_ret
                exact ⟨by simp, HW9.out⟩
              · have he0' : (er != 0) = true := by simpa using he0
                clear he0
                go_wp2
                go_ret
                exact ⟨by simp, HW9.out⟩
        · have h0' : (viewE f lines c != 0) = true := by simpa using h0
          clear h0
          go_wp2
          go_ret
          exact ⟨by simp, HW3.out.alloc HW3.out.size _⟩

end Go.Proofs.Ytndcbnnbgedgcaa
