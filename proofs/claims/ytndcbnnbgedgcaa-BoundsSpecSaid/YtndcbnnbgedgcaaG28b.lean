/-
  Texts that stood one after the other, joined by a program (each part's own remark stands at its head below).
-/
import Derived.Test.YtndcbnnbgedgcaaG28a
import Derived.Test.YtndcbnnbgedgcaaApp
import Derived.Deep.RegionHeldLaw
import Derived.Deep.DrawnRows
import Derived.Test.YtndcbnnbgedgcaaRange
/-
  The walks of frankingref28.Last, First, Product, Few.
-/
set_option linter.unusedVariables false
set_option linter.unusedSimpArgs false
namespace Go.Proofs.Ytndcbnnbgedgcaa
open Go.RowKit

theorem row_next {v v' : Value} {n m : Nat} (h : v'.ownBlock = v.ownBlock ∨ v'.ownBlock = some n) (hv : ∀ j, v.ownBlock = some j → m < j) (hn : m < n) : ∀ j, v'.ownBlock = some j → m < j := by
  intro j hj
  rcases h with h | h
  · exact hv j (by rw [← h]; exact hj)
  · rw [h] at hj
    injection hj with hj
    omega

set_option maxHeartbeats 2000000 in
set_option maxRecDepth 100000 in
/-- frankingref28.Last -/
theorem lastL28_any (B : Nat) (w : World) (vs vl : Value) (f : Flow) (hf : IsFlow B w vs vl f) (hB : B ≤ w.heap.size) (h0 : checkE f = 0) :
    Calls Try.prog 64 #[.agg #[vs, vl]] w fun e w' => ∃ v, e = .returned v ∧ OwnInts w.heap.size w' v (lastL f f.lots.length) ∧ Below w.heap.size w w' := by
  have HF := Lib.hid hf
  have H0 := Lib.hid h0
  have hck := checkE_ok h0
  obtain ⟨hk1, hk2, hk3, hk4, _⟩ := hck
  clear h0 hk4
  obtain ⟨rfl, ⟨hs1, hs2⟩, hl⟩ := hf
  obtain ⟨b, off, cap, ⟨a, rfl, hcap, hmax, ha⟩, hlen, hc⟩ := hl
  have HC := Lib.hid hc
  have HA := Lib.hid ha
  clear hc ha
  have HX0 := Lib.hid (Box.new w #[.int .i64 f.senders, .slice a f.lots.length cap] 24)
  go_enter Try.func64, Try.ntmps64
  go_wp2
  go_loopw [3, 4] (fun v vi wr => ∃ k : Nat, k ≤ f.lots.length ∧ vi = .int .i64 k ∧ OwnInts w.heap.size wr v (lastL f k) ∧ Box wr w.heap.size #[.int .i64 f.senders, .slice a f.lots.length cap] ∧ Below w.heap.size w wr ∧ (∀ j, v.ownBlock = some j → w.heap.size < j)) (fun _ vi _ => f.lots.length - (intOf vi).toNat)
  case atStart => exact ⟨0, by omega, rfl, (OwnInts.made' (B := w.heap.size) (w := w.alloc _) (by simp) (by simp)), HX0.out.alloc _, (box_below' w _).trans ((box_below' _ _).mono (by simp)), fun j hj => by simp [Value.ownBlock] at hj; omega⟩
  case round =>
    obtain ⟨k, hk, rfl, ho, hbx, hbr, hrow⟩ := hrel
    have HO := Lib.hid ho
    have HX := Lib.hid hbx
    have HBR := Lib.hid hbr
    have HROW := Lib.hid hrow
    clear ho hbr hrow
    obtain ⟨z1, r1⟩ := hbx
    have r10 := r1 0
    have r11 := r1 1
    simp at r10 r11
    clear r1
    by_cases hlt : k < f.lots.length
    · obtain rfl : a = some ⟨b, off, none⟩ := by rcases HA.out with ha | ha; exact ha; omega
      obtain ⟨vi, vk, vp, hc1, hc2, hc3, hl1, rfl, hl3⟩ := HC.out k hlt
      have hbb : b < w.heap.size := by have := hc1.1; omega
      have c2 := (HBR.out.cell (p := ⟨b, off + k * 3 + 1, none⟩) hbb).trans hc2.2
      have HS : Hid (lastL f (k + 1) = if !(lotAt f.lots k).known && lastB f k then lastL f k ++ [(k : Int)] else lastL f k) := Lib.hid rfl
      have HLN := Lib.hid (lastL_len f k)
      obtain ⟨kn, hkn⟩ : ∃ x, (lotAt f.lots k).known = x := ⟨_, rfl⟩
      rw [hkn] at c2 HS
      clear hc1 hc2 hc3 hl1 hl3 hkn
      cases kn
      · cases hb : lastB f k
        · rw [hb] at HS
          have HB := Lib.hid hb
          clear hb
          go_wp2_with (go_at_call 87; refine (last28_any B wr _ _ f k (HF.out.below HBR.out hB) (by have := HBR.out.size; omega) H0.out hlt).mono ?_; rintro e w5 ⟨rfl, hb5⟩; rw [HB.out]; have HB5 := Lib.hid hb5; clear hb5)
          go_roundw
          case rel => exact ⟨k + 1, by omega, by go_num, by rw [HS.out]; exact HO.out.below HB5.out, HX.out.ext HB5.out, HBR.out.trans (HB5.out.mono HBR.out.size), HROW.out⟩
          case measure => simp [intOf]; omega
        · rw [hb] at HS
          have HB := Lib.hid hb
          clear hb
          go_wp2_with (first
            | (go_at_call 87; refine (last28_any B wr _ _ f k (HF.out.below HBR.out hB) (by have := HBR.out.size; omega) H0.out hlt).mono ?_; rintro e w5 ⟨rfl, hb5⟩; rw [HB.out]; have HB5 := Lib.hid hb5; clear hb5)
            | (at_builtin; refine append_intsA rfl (.tmp 25) (.tmp 27) rfl (vx := .slice (some ⟨w5.heap.size, 0, none⟩) 1 1) [(k : Int)] rfl ((HO.out.below HB5.out).alloc _) rfl (src_one (World.cell?_alloc_at _ _ _ _ rfl) rfl) (by unfold I64; simp; omega) (by have := HLN.out; simp; omega) (by have := HBR.out.size; have := HB5.out.size; simp; omega) ?_; intro v6 w6 ho6 hg6 hat6; have HO6 := Lib.hid ho6; have HG6 := Lib.hid hg6; have HRW6 := Lib.hid (row_next hat6 HROW.out (by have := HB5.out.size; have := HBR.out.size; simp; omega)); clear ho6 hg6 hat6))
          go_roundw
          case rel =>
            have h5 := HB5.out.size
            refine ⟨k + 1, by omega, by go_num, by rw [HS.out]; exact HO6.out, ((HX.out.ext HB5.out).alloc _).grown HG6.out (fun e => by have := HROW.out _ e.symm; omega), ((HBR.out.trans (HB5.out.mono HBR.out.size)).alloc (by have := HBR.out.size; omega) _).grown HG6.out (by have := HBR.out.size; simp; omega) (fun j hj => by have := HROW.out j hj; omega), HRW6.out⟩
          case measure => simp [intOf]; omega
      · go_wp2
        go_roundw
        case rel => exact ⟨k + 1, by omega, by go_num, by rw [HS.out]; exact HO.out, HX.out, HBR.out, HROW.out⟩
        case measure => simp [intOf]; omega
    · obtain rfl : k = f.lots.length := by omega
      go_wp2
      go_ret
      exact ⟨_, rfl, HO.out, HBR.out⟩

set_option maxHeartbeats 2000000 in
set_option maxRecDepth 100000 in
/-- frankingref28.First -/
theorem firstL28_any (B : Nat) (w : World) (vs vl : Value) (f : Flow) (hf : IsFlow B w vs vl f) (hB : B ≤ w.heap.size) (h0 : checkE f = 0) :
    Calls Try.prog 65 #[.agg #[vs, vl]] w fun e w' => ∃ v, e = .returned v ∧ OwnInts w.heap.size w' v (firstL f f.lots.length) ∧ Below w.heap.size w w' := by
  have HF := Lib.hid hf
  have H0 := Lib.hid h0
  have hck := checkE_ok h0
  obtain ⟨hk1, hk2, hk3, hk4, _⟩ := hck
  clear h0 hk4
  obtain ⟨rfl, ⟨hs1, hs2⟩, hl⟩ := hf
  obtain ⟨b, off, cap, ⟨a, rfl, hcap, hmax, ha⟩, hlen, hc⟩ := hl
  have HC := Lib.hid hc
  have HA := Lib.hid ha
  clear hc ha
  have HX0 := Lib.hid (Box.new w #[.int .i64 f.senders, .slice a f.lots.length cap] 24)
  go_enter Try.func65, Try.ntmps65
  go_wp2
  go_loopw [3, 4] (fun v vi wr => ∃ k : Nat, k ≤ f.lots.length ∧ vi = .int .i64 k ∧ OwnInts w.heap.size wr v (firstL f k) ∧ Box wr w.heap.size #[.int .i64 f.senders, .slice a f.lots.length cap] ∧ Below w.heap.size w wr ∧ (∀ j, v.ownBlock = some j → w.heap.size < j)) (fun _ vi _ => f.lots.length - (intOf vi).toNat)
  case atStart => exact ⟨0, by omega, rfl, (OwnInts.made' (B := w.heap.size) (w := w.alloc _) (by simp) (by simp)), HX0.out.alloc _, (box_below' w _).trans ((box_below' _ _).mono (by simp)), fun j hj => by simp [Value.ownBlock] at hj; omega⟩
  case round =>
    obtain ⟨k, hk, rfl, ho, hbx, hbr, hrow⟩ := hrel
    have HO := Lib.hid ho
    have HX := Lib.hid hbx
    have HBR := Lib.hid hbr
    have HROW := Lib.hid hrow
    clear ho hbr hrow
    obtain ⟨z1, r1⟩ := hbx
    have r10 := r1 0
    have r11 := r1 1
    simp at r10 r11
    clear r1
    by_cases hlt : k < f.lots.length
    · obtain rfl : a = some ⟨b, off, none⟩ := by rcases HA.out with ha | ha; exact ha; omega
      obtain ⟨vi, vk, vp, hc1, hc2, hc3, hl1, rfl, hl3⟩ := HC.out k hlt
      have hbb : b < w.heap.size := by have := hc1.1; omega
      have c2 := (HBR.out.cell (p := ⟨b, off + k * 3 + 1, none⟩) hbb).trans hc2.2
      have HS : Hid (firstL f (k + 1) = if !(lotAt f.lots k).known && firstB f k then firstL f k ++ [(k : Int)] else firstL f k) := Lib.hid rfl
      have HLN := Lib.hid (firstL_len f k)
      obtain ⟨kn, hkn⟩ : ∃ x, (lotAt f.lots k).known = x := ⟨_, rfl⟩
      rw [hkn] at c2 HS
      clear hc1 hc2 hc3 hl1 hl3 hkn
      cases kn
      · cases hb : firstB f k
        · rw [hb] at HS
          have HB := Lib.hid hb
          clear hb
          go_wp2_with (go_at_call 88; refine (first28_any B wr _ _ f k (HF.out.below HBR.out hB) (by have := HBR.out.size; omega) H0.out hlt).mono ?_; rintro e w5 ⟨rfl, hb5⟩; rw [HB.out]; have HB5 := Lib.hid hb5; clear hb5)
          go_roundw
          case rel => exact ⟨k + 1, by omega, by go_num, by rw [HS.out]; exact HO.out.below HB5.out, HX.out.ext HB5.out, HBR.out.trans (HB5.out.mono HBR.out.size), HROW.out⟩
          case measure => simp [intOf]; omega
        · rw [hb] at HS
          have HB := Lib.hid hb
          clear hb
          go_wp2_with (first
            | (go_at_call 88; refine (first28_any B wr _ _ f k (HF.out.below HBR.out hB) (by have := HBR.out.size; omega) H0.out hlt).mono ?_; rintro e w5 ⟨rfl, hb5⟩; rw [HB.out]; have HB5 := Lib.hid hb5; clear hb5)
            | (at_builtin; refine append_intsA rfl (.tmp 25) (.tmp 27) rfl (vx := .slice (some ⟨w5.heap.size, 0, none⟩) 1 1) [(k : Int)] rfl ((HO.out.below HB5.out).alloc _) rfl (src_one (World.cell?_alloc_at _ _ _ _ rfl) rfl) (by unfold I64; simp; omega) (by have := HLN.out; simp; omega) (by have := HBR.out.size; have := HB5.out.size; simp; omega) ?_; intro v6 w6 ho6 hg6 hat6; have HO6 := Lib.hid ho6; have HG6 := Lib.hid hg6; have HRW6 := Lib.hid (row_next hat6 HROW.out (by have := HB5.out.size; have := HBR.out.size; simp; omega)); clear ho6 hg6 hat6))
          go_roundw
          case rel =>
            have h5 := HB5.out.size
            refine ⟨k + 1, by omega, by go_num, by rw [HS.out]; exact HO6.out, ((HX.out.ext HB5.out).alloc _).grown HG6.out (fun e => by have := HROW.out _ e.symm; omega), ((HBR.out.trans (HB5.out.mono HBR.out.size)).alloc (by have := HBR.out.size; omega) _).grown HG6.out (by have := HBR.out.size; simp; omega) (fun j hj => by have := HROW.out j hj; omega), HRW6.out⟩
          case measure => simp [intOf]; omega
      · go_wp2
        go_roundw
        case rel => exact ⟨k + 1, by omega, by go_num, by rw [HS.out]; exact HO.out, HX.out, HBR.out, HROW.out⟩
        case measure => simp [intOf]; omega
    · obtain rfl : k = f.lots.length := by omega
      go_wp2
      go_ret
      exact ⟨_, rfl, HO.out, HBR.out⟩

theorem facTo_step {n v : Int} {i : Nat} (h : facTo n i = some v) : facTo n (i + 1) = if mostI / ((i : Int) + 1) < v then none else some (v * ((i : Int) + 1)) := by
  simp only [facTo, h]
theorem mul_bd {v : Int} {i : Nat} (h1 : 1 ≤ v) (h : ¬ mostI / ((i : Int) + 1) < v) : 0 ≤ v * ((i : Int) + 1) ∧ v * ((i : Int) + 1) ≤ 1152921504606846976 := by
  have h4 : v * ((i : Int) + 1) ≤ mostI := (Int.le_ediv_iff_mul_le (by omega)).1 (by omega)
  exact ⟨Int.mul_nonneg (by omega) (by omega), h4⟩

set_option maxHeartbeats 2000000 in
set_option maxRecDepth 100000 in
/-- frankingref28.Product -/
theorem product28_any (B : Nat) (w : World) (vs vl vx : Value) (f : Flow) (l : List Int) (hf : IsFlow B w vs vl f) (hx : IsInts B w vx l) (hB : B ≤ w.heap.size) (h0 : checkE f = 0) (hin : ∀ x ∈ l, 0 ≤ x ∧ x < f.lots.length) :
    Calls Try.prog 66 #[.agg #[vs, vl], vx] w fun e w' => e = .returned (.tuple #[.int .i64 (prodR f l), .bool (prodB f l)]) ∧ Below w.heap.size w w' := by
  have HF := Lib.hid hf
  have hck := checkE_ok h0
  have HV := Lib.hid hck.2.2.2.2
  have H0 := Lib.hid h0
  clear hck h0
  obtain ⟨rfl, ⟨hs1, hs2⟩, hl⟩ := hf
  obtain ⟨b, off, cap, ⟨a, rfl, hcap, hmax, ha⟩, hlen, hc⟩ := hl
  obtain ⟨b1, off1, cap1, ⟨a1, rfl, hcap1, hmax1, ha1⟩, hlen1, hz1, hc1⟩ := hx
  have HC := Lib.hid hc
  have HC1 := Lib.hid hc1
  have HA := Lib.hid ha
  have HA1 := Lib.hid ha1
  have HIN := Lib.hid hin
  clear hc ha hc1 ha1 hz1 hin
  have HX0 := Lib.hid (Box.new w #[.int .i64 f.senders, .slice a f.lots.length cap] 24)
  go_enter Try.func66, Try.ntmps66
  go_wp2
  go_loopw [6, 7] (fun vn vi wr => ∃ (k : Nat) (v : Int), k ≤ l.length ∧ vi = .int .i64 k ∧ vn = .int .i64 v ∧ prodTo f l k = some v ∧ Box wr w.heap.size #[.int .i64 f.senders, .slice a f.lots.length cap] ∧ Below w.heap.size w wr) (fun _ vi _ => l.length - (intOf vi).toNat)
  case atStart => exact ⟨0, 1, by omega, rfl, rfl, rfl, HX0.out, box_below' _ _⟩
  case round =>
    obtain ⟨k, v, hk, rfl, rfl, hp, hbx, hbr⟩ := hrel
    have HP := Lib.hid hp
    have HX := Lib.hid hbx
    have HBR := Lib.hid hbr
    clear hp hbx hbr
    have hv := prodTo_bd k v HP.out
    by_cases hlt : k < l.length
    · obtain rfl : a1 = some ⟨b1, off1, none⟩ := by rcases HA1.out with ha | ha; exact ha; omega
      have hin := HIN.out _ (nth_mem hlt)
      obtain ⟨j, hj⟩ := Int.eq_ofNat_of_zero_le hin.1
      have hjl : j < f.lots.length := by omega
      obtain rfl : a = some ⟨b, off, none⟩ := by rcases HA.out with ha | ha; exact ha; omega
      obtain ⟨vi, vk, vp, hc1, hc2, hc3, hl1, rfl, hl3⟩ := HC.out j hjl
      obtain ⟨bi, oi, ci, ⟨ai, rfl, _⟩, _⟩ := hl1
      have hbb : b < w.heap.size := by have := hc1.1; omega
      have hbb1 : b1 < w.heap.size := by have := (HC1.out k hlt).1; omega
      have HCE := Lib.hid hc1.2
      have HCL := Lib.hid (HC1.out k hlt).2
      rw [hj] at HCL
      have HS : Hid (prodTo f l (k + 1) = facTo v (lotAt f.lots j).ins.length) := Lib.hid (by simp only [prodTo, HP.out, hj]; rfl)
      have hne : (lotAt f.lots j).ins ≠ [] := by
        have := lotsB_lot HV.out hjl
        unfold lotB at this
        simp only [Bool.and_eq_true, decide_eq_true_eq] at this
        exact this.1.1.1
      have hpos : 1 ≤ (lotAt f.lots j).ins.length := List.length_pos_iff.2 hne
      have hbf := before_bd H0.out (show j + 1 ≤ f.lots.length by omega)
      have hbf0 := before_bd H0.out (show j ≤ f.lots.length by omega)
      simp only [beforeI] at hbf
      obtain ⟨n, hn⟩ : ∃ n, (lotAt f.lots j).ins.length = n := ⟨_, rfl⟩
      rw [hn] at HCE HS hpos hbf
      have hn5 : n ≤ 50000 := by omega
      clear hc1 hc2 hc3 hl3 hn hj hin hne hbf hbf0
      go_wp2
      go_loopw [6, 8] (fun vn vi wr => ∃ (i : Nat) (u : Int), 1 ≤ i ∧ i ≤ n ∧ vi = .int .i64 ((i : Int) + 1) ∧ vn = .int .i64 u ∧ facTo v i = some u ∧ Box wr w.heap.size #[.int .i64 f.senders, .slice (some ⟨b, off, none⟩) f.lots.length cap] ∧ Below w.heap.size w wr) (fun _ vi _ => n + 1 - (intOf vi).toNat)
      case atStart => exact ⟨1, v, by omega, by omega, rfl, rfl, facTo_one hv.1 hv.2, HX.out, HBR.out⟩
      case round =>
        obtain ⟨i, u, hi1, hi2, rfl, rfl, hfa, hbx, hbr⟩ := hrel
        have HFA := Lib.hid hfa
        have HX := Lib.hid hbx
        have HBR := Lib.hid hbr
        clear hfa hbr
        obtain ⟨z1, r1⟩ := hbx
        have r10 := r1 0
        have r11 := r1 1
        simp at r10 r11
        clear r1
        have hu := facTo_bd hv.1 hv.2 i u HFA.out
        have c1 := (HBR.out.cell (p := ⟨b, off + j * 3, none⟩) hbb).trans HCE.out
        have c2 := (HBR.out.cell (p := ⟨b1, off1 + k, none⟩) hbb1).trans HCL.out
        have HST := Lib.hid (facTo_step HFA.out)
        have hk0 : (0 : Int) ≤ (k : Int) := Int.natCast_nonneg _
        have hk1 : (k : Int) < (l.length : Int) := by omega
        have hj0 : (0 : Int) ≤ (j : Int) := Int.natCast_nonneg _
        have hj1 : (j : Int) < (f.lots.length : Int) := by omega
        by_cases hlt2 : i < n
        · have g1 : decide ((i : Int) + 1 ≤ (n : Int)) = true := decide_eq_true (by omega)
          have hp1 : (0 : Int) < (i : Int) + 1 := by omega
          by_cases hov : mostI / ((i : Int) + 1) < u
          · have g2 : decide (1152921504606846976 / ((i : Int) + 1) < u) = true := decide_eq_true hov
            have HN : Hid (prodTo f l l.length = none) := Lib.hid (prodTo_none (k := k + 1) (by rw [HS.out]; exact facTo_none (i := i + 1) (by rw [HST.out, if_pos hov]) (by omega)) (by omega))
            have HR1 : Hid (prodR f l = 0) := Lib.hid (by unfold prodR; rw [HN.out]; rfl)
            have HR2 : Hid (prodB f l = false) := Lib.hid (by unfold prodB; rw [HN.out]; rfl)
            clear hov
            go_wp2
            go_quiet (fail)
            go_wp2
            go_ret2
            exact ⟨by rw [HR1.out, HR2.out]; rfl, HBR.out.trans ((Drew.refl wr).drewN _ |>.below _)⟩
          · have g2 : decide (1152921504606846976 / ((i : Int) + 1) < u) = false := decide_eq_false hov
            have hm := mul_bd hu.1 hov
            have HN : Hid (facTo v (i + 1) = some (u * ((i : Int) + 1))) := Lib.hid (by rw [HST.out, if_neg hov])
            obtain ⟨p, hp⟩ : ∃ p, u * ((i : Int) + 1) = p := ⟨_, rfl⟩
            have hw1 : IntKind.i64.wrap (u * ((i : Int) + 1)) = p := by rw [hp, IntWalk.i64_in _ (by omega)]
            have HPP := Lib.hid hp
            rw [hp] at HN hm
            clear hov hp
            go_wp2
            go_quiet (fail)
            go_wp2
            go_roundw
            case rel => exact ⟨i + 1, p, by omega, by omega, by go_num, by first | rfl | (rw [HPP.out]) | (rw [hw1]), HN.out, HX.out.below ((Drew.refl wr).drewN _ |>.below _) (Nat.lt_of_lt_of_le z1 (Nat.le_refl _)), HBR.out.trans ((Drew.refl wr).drewN _ |>.below _)⟩
            case measure => simp [intOf]; omega
        · obtain rfl : i = n := by omega
          have g1 : decide ((i : Int) + 1 ≤ (i : Int)) = false := decide_eq_false (by omega)
          have HN : Hid (prodTo f l (k + 1) = some u) := Lib.hid (by rw [HS.out]; exact HFA.out)
          go_wp2
          go_quiet (fail)
          go_wp2
          go_roundw
          case rel => exact ⟨k + 1, u, by omega, by go_num, rfl, HN.out, HX.out.below ((Drew.refl wr).drewN _ |>.below _) (Nat.lt_of_lt_of_le z1 (Nat.le_refl _)), HBR.out.trans ((Drew.refl wr).drewN _ |>.below _)⟩
          case measure => simp [intOf]; omega
    · obtain rfl : k = l.length := by omega
      have HR1 : Hid (prodR f l = v) := Lib.hid (by unfold prodR; rw [HP.out]; rfl)
      have HR2 : Hid (prodB f l = true) := Lib.hid (by unfold prodB; rw [HP.out]; rfl)
      go_wp2
      go_ret2
      exact ⟨by rw [HR1.out, HR2.out]; rfl, HBR.out⟩

/-- Few of layer 28 -/
def few28 (f : Flow) : Bool := few25 f && (decide (f.senders ≤ 6) || decide (12 < f.senders))
theorem few28_any (B : Nat) (w : World) (vs vl : Value) (f : Flow) (hf : IsFlow B w vs vl f) (hB : B ≤ w.heap.size) :
    Calls Try.prog 26 #[.agg #[vs, vl]] w fun e w' => e = .returned (.bool (few28 f)) ∧ Below w.heap.size w w' := by
  have HF := Lib.hid hf
  obtain ⟨rfl, ⟨hs1, hs2⟩, hl⟩ := hf
  obtain ⟨b, off, cap, ⟨a, rfl, hcap, hmax, ha⟩, hlen, hc⟩ := hl
  clear hc ha
  have HC := Lib.hid (fun o => few25_any B (w.alloc o) _ _ f (HF.out.below (box_below hB o) (Nat.le_refl _)) (by simp; omega))
  cases h1 : few25 f
  · have HT : Hid (few28 f = false) := Lib.hid (by unfold few28; rw [h1]; rfl)
    have H1 := Lib.hid h1
    clear h1
    go_enter Try.func26, Try.ntmps26
    go_wp2_with (go_at_call 56; refine (HC.out _).mono ?_; rintro e w5 ⟨rfl, hb5⟩; rw [H1.out]; have HB5 := Lib.hid hb5; clear hb5)
    go_ret
    exact ⟨by rw [HT.out]; rfl, (box_below (Nat.le_refl _) _).trans (HB5.out.mono (by simp))⟩
  · have H1 := Lib.hid h1
    have HT : Hid (few28 f = (decide (f.senders ≤ 6) || decide (12 < f.senders))) := Lib.hid (by unfold few28; rw [h1]; rfl)
    clear h1
    by_cases h2 : f.senders ≤ 6
    · have h2' : decide (f.senders ≤ 6) = true := decide_eq_true h2
      have HU : Hid (few28 f = true) := Lib.hid (by rw [HT.out, h2']; rfl)
      go_enter Try.func26, Try.ntmps26
      go_wp2_with (go_at_call 56; refine (HC.out _).mono ?_; rintro e w5 ⟨rfl, hb5⟩; rw [H1.out]; have HB5 := Lib.hid hb5; have HX := Lib.hid ((Box.new w _ _).ext hb5); obtain ⟨z5, r5⟩ := HX.out; clear hb5)
      go_ret
      exact ⟨by rw [HU.out]; rfl, (box_below (Nat.le_refl _) _).trans (HB5.out.mono (by simp))⟩
    · have h2' : decide (f.senders ≤ 6) = false := decide_eq_false h2
      have HU : Hid (few28 f = decide (12 < f.senders)) := Lib.hid (by rw [HT.out, h2']; rfl)
      go_enter Try.func26, Try.ntmps26
      go_wp2_with (go_at_call 56; refine (HC.out _).mono ?_; rintro e w5 ⟨rfl, hb5⟩; rw [H1.out]; have HB5 := Lib.hid hb5; have HX := Lib.hid ((Box.new w _ _).ext hb5); obtain ⟨z5, r5⟩ := HX.out; clear hb5)
      go_ret
      exact ⟨by rw [HU.out]; rfl, (box_below (Nat.le_refl _) _).trans (HB5.out.mono (by simp))⟩

end Go.Proofs.Ytndcbnnbgedgcaa

/-
  The walks of frankingref28.ways, Upper, Lower.
-/
set_option linter.unusedVariables false
set_option linter.unusedSimpArgs false
namespace Go.Proofs.Ytndcbnnbgedgcaa
open Go.RowKit

def wpart (row : List Int) (rest : List (List Int)) (used : List Int) (i : Nat) : Int := ((row.take i).map fun x => if hasB used x then 0 else waysS rest (used ++ [x])).sum
theorem wpart_succ {row : List Int} {rest : List (List Int)} {used : List Int} {i : Nat} (h : i < row.length) : wpart row rest used (i + 1) = wpart row rest used i + if hasB used (nth row i) then 0 else waysS rest (used ++ [nth row i]) := by
  unfold wpart
  rw [List.take_succ_eq_append_getElem h, List.map_append, List.sum_append, nth_eq_getElem h]
  simp
theorem wpart_all {row : List Int} {rest : List (List Int)} {used : List Int} : wpart row rest used row.length = waysS (row :: rest) used := by
  unfold wpart
  rw [List.take_of_length_le (Nat.le_refl _)]
  rfl
theorem wpart_bd {row : List Int} {rest : List (List Int)} {used : List Int} (i : Nat) (hr : row.length ≤ 6) (h : ∀ r ∈ rest, r.length ≤ 6) : 0 ≤ wpart row rest used i ∧ wpart row rest used i ≤ 6 * 6 ^ rest.length := by
  have hp := pow6_pos rest.length
  have := sum_bd (g := fun x => if hasB used x then 0 else waysS rest (used ++ [x])) (c := 6 ^ rest.length) (l := row.take i) (fun x _ => by
    have ih := waysS_bd rest (used ++ [x]) h
    split
    · omega
    · exact ih)
  refine ⟨this.1, Int.le_trans this.2 ?_⟩
  have hl : (row.take i).length ≤ 6 := by simp; omega
  exact Int.mul_le_mul_of_nonneg_right (by omega) (by omega)
theorem pow6_le {n m : Nat} (h : n ≤ m) : (6 : Int) ^ n ≤ 6 ^ m := by
  induction h with
  | refl => exact Int.le_refl _
  | @step m _ ih =>
    have := pow6_pos m
    rw [Int.pow_succ]
    omega
theorem drop_row {rows : List (List Int)} {s : Nat} (h : s < rows.length) : rows.drop s = rowAt rows s :: rows.drop (s + 1) := by
  rw [List.drop_eq_getElem_cons h]
  congr 1
  unfold rowAt
  rw [List.getD_eq_getElem?_getD, List.getElem?_eq_getElem h]
  rfl
theorem rowAt_in {rows : List (List Int)} {s : Nat} (h : s < rows.length) : rowAt rows s ∈ rows := by
  unfold rowAt
  rw [List.getD_eq_getElem?_getD, List.getElem?_eq_getElem h]
  exact List.getElem_mem h
theorem OwnInts.drew' {B : Nat} {w : World} {v : Value} {xs : List Int} (h : OwnInts B w v xs) : OwnInts B w.drew v xs := h
theorem OwnInts.rows' {B : Nat} {w : World} {v : Value} {xs : List Int} (h : OwnInts B w v xs) : ∀ k, v.ownBlock = some k → B ≤ k := fun k hk => (h.1.lt k hk).1

set_option maxHeartbeats 8000000 in
set_option maxRecDepth 100000 in
/-- frankingref28.ways -/
theorem ways28_any : ∀ (d B : Nat) (w : World) (vm vu : Value) (rows : List (List Int)) (used : List Int) (s : Nat), rows.length - s = d → IsMat B w vm rows → IsInts B w vu used → B ≤ w.heap.size → s ≤ rows.length → used.length ≤ s → rows.length ≤ 12 → (∀ r ∈ rows, r.length ≤ 6) →
    Calls Try.prog 60 #[vm, .int .i64 s, vu] w fun e w' => e = .returned (.int .i64 (waysS (rows.drop s) used)) ∧ Below w.heap.size w w' := by
  intro d
  induction d with
  | zero =>
    intro B w vm vu rows used s hd hm hu hB hs hus h12 hr
    obtain rfl : s = rows.length := by omega
    have HT : Hid (waysS (rows.drop rows.length) used = 1) := Lib.hid (by rw [List.drop_length]; rfl)
    obtain ⟨b, off, cap, ⟨a, rfl, _⟩, _⟩ := hm
    obtain ⟨b1, off1, cap1, ⟨a1, rfl, _⟩, _⟩ := hu
    have he : ((rows.length : Int) == (rows.length : Int)) = true := by simp
    clear hr hd
    go_enter Try.func60, Try.ntmps60
    go_wp2
    go_ret
    exact ⟨by rw [HT.out]; rfl, Below.refl _ _⟩
  | succ d ih =>
    intro B w vm vu rows used s hd hm hu hB hs hus h12 hr
    have IH := Lib.hid ih
    have HDD := Lib.hid hd
    have HM := Lib.hid hm
    have HU := Lib.hid hu
    have HR := Lib.hid hr
    have hsl : s < rows.length := by omega
    obtain ⟨b, off, cap, ⟨a, rfl, hcap, hmax, ha⟩, hlen, hc⟩ := hm
    obtain ⟨b1, off1, cap1, ⟨a1, rfl, hcap1, hmax1, ha1⟩, hlen1, hz1, hc1⟩ := hu
    obtain rfl : a = some ⟨b, off, none⟩ := by rcases ha with ha | ha; exact ha; omega
    obtain ⟨vr, hcr, hrow⟩ := hc s hsl
    have HZ1 := Lib.hid hz1
    have HROW := Lib.hid hrow
    have HCR := Lib.hid hcr
    obtain ⟨b2, off2, cap2, ⟨a2, rfl, hcap2, hmax2, ha2⟩, hlen2, hz2, hc2⟩ := hrow
    have HC2 := Lib.hid hc2
    have HZ2 := Lib.hid hz2
    have HDR := Lib.hid (drop_row hsl)
    have hrl : (rowAt rows s).length ≤ 6 := hr _ (rowAt_in hsl)
    have HRT : Hid (∀ r ∈ rows.drop (s + 1), r.length ≤ 6) := Lib.hid fun r hr' => hr r (List.mem_of_mem_drop hr')
    have hrt : (rows.drop (s + 1)).length ≤ 11 := by simp; omega
    have HP6 := Lib.hid (pow6_le hrt)
    have HRL := Lib.hid hrl
    obtain ⟨row, hrw⟩ : ∃ r, rowAt rows s = r := ⟨_, rfl⟩
    obtain ⟨rest, hrs⟩ : ∃ r, rows.drop (s + 1) = r := ⟨_, rfl⟩
    have HRS := Lib.hid hrs
    rw [hrw] at HROW HC2 HZ2 HDR hrl hcap2 ha2 hlen2 HRL
    rw [hrw] at HCR
    rw [hrs] at HDR HRT HP6
    have HWB := Lib.hid (fun i => wpart_bd (row := row) (rest := rest) (used := used) i hrl HRT.out)
    have hbw : b < w.heap.size := by have := hcr.1; omega
    have hne : ((s : Int) == (rows.length : Int)) = false := by simp; omega
    have hs1 : IntKind.i64.wrap ((s : Int) + 1) = (s : Int) + 1 := by rw [IntWalk.i64_in _ (by omega)]
    rw [HDR.out]
    clear hc ha hc1 ha1 hz1 hc2 hz2 hcr hrw hrs hr ih hd hrt
    have c1 := HCR.out.2
    have hs0 : (0 : Int) ≤ (s : Int) := Int.natCast_nonneg _
    have hs2 : (s : Int) < (rows.length : Int) := by omega
    go_enter Try.func60, Try.ntmps60
    go_wp2
    clear c1
    go_loopw [7, 8] (fun vn vi wr => ∃ i : Nat, i ≤ row.length ∧ vi = .int .i64 i ∧ vn = .int .i64 (wpart row rest used i) ∧ Below w.heap.size w wr) (fun _ vi _ => row.length - (intOf vi).toNat)
    case atStart => exact ⟨0, by omega, rfl, rfl, Below.refl _ _⟩
    case round =>
      obtain ⟨i, hi, rfl, rfl, hbr⟩ := hrel
      have HBR := Lib.hid hbr
      have c1 := (hbr.cell (p := ⟨b, off + s, none⟩) hbw).trans HCR.out.2
      have hbb : b < wr.heap.size := by have := hbr.size; omega
      clear hbr
      by_cases hlt : i < row.length
      · obtain rfl : a2 = some ⟨b2, off2, none⟩ := by rcases ha2 with ha | ha; exact ha; omega
        have hb2 : b2 < w.heap.size := by have := (HC2.out i hlt).1; omega
        have c2 := (HBR.out.cell (p := ⟨b2, off2 + i, none⟩) hb2).trans (HC2.out i hlt).2
        have hb2r : b2 < wr.heap.size := by have := HBR.out.size; omega
        have HPL := Lib.hid (place_any B wr (.slice a1 used.length cap1) used (nth row i) (HU.out.below HBR.out hB))
        have HST := Lib.hid (wpart_succ (rest := rest) (used := used) hlt)
        have hi0 : (0 : Int) ≤ (i : Int) := Int.natCast_nonneg _
        have hi1 : (i : Int) < (row.length : Int) := by omega
        cases hh : hasB used (nth row i)
        · have HN := Lib.hid (idxI_none hh)
          have HS2 : Hid (wpart row rest used (i + 1) = wpart row rest used i + waysS rest (used ++ [nth row i])) := Lib.hid (by rw [HST.out, hh]; rfl)
          have hb1 := HWB.out i
          have hb2' := HWB.out (i + 1)
          rw [HS2.out] at hb2'
          have hp6 := HP6.out
          obtain ⟨x, hx⟩ : ∃ x, nth row i = x := ⟨_, rfl⟩
          obtain ⟨wa, hwa⟩ : ∃ x, wpart row rest used i = x := ⟨_, rfl⟩
          have hzx : I64 x := by rw [← hx]; exact HZ2.out _ (nth_mem hlt)
          obtain ⟨wb, hwb⟩ : ∃ x, waysS rest (used ++ [nth row i]) = x := ⟨_, rfl⟩
          rw [hx] at c2 HPL hwb
          have HWB2 := Lib.hid hwb
          rw [hx, hwb, hwa] at HS2
          rw [hx, hwb, hwa] at hb2'
          rw [hwa] at hb1 ⊢
          have hwr : IntKind.i64.wrap (wa + wb) = wa + wb := by rw [IntWalk.i64_in _ (by omega)]
          have HZX := Lib.hid hzx
          rw [hx] at HN
          have HKP : Hid (∀ W, Below wr.heap.size wr W → W.cell? ⟨b, off + s, none⟩ = some (.slice (some ⟨b2, off2, none⟩) row.length cap2) ∧ W.cell? ⟨b2, off2 + i, none⟩ = some (.int .i64 x)) := Lib.hid fun W hW =>
            ⟨(hW.cell (p := ⟨b, off + s, none⟩) hbb).trans c1, (hW.cell (p := ⟨b2, off2 + i, none⟩) hb2r).trans c2⟩
          have HSU : Hid (∀ W, Below wr.heap.size wr W → Src W 1 (.slice a1 used.length cap1) used.length (used.map (Value.int .i64))) := Lib.hid fun W hW => (HU.out.below (HBR.out.trans (hW.mono HBR.out.size)) hB).src
          have HIH : Hid (∀ W vu', Below wr.heap.size wr W → IsInts W.heap.size W vu' (used ++ [x]) → Calls Try.prog 60 #[.slice (some ⟨b, off, none⟩) rows.length cap, .int .i64 ((s : Int) + 1), vu'] W fun e w' => e = .returned (.int .i64 wb) ∧ Below W.heap.size W w') := Lib.hid fun W vu' hW hI => by
            have h := IH.out W.heap.size W _ vu' rows (used ++ [x]) (s + 1) (by have := HDD.out; omega) ((HM.out.below (HBR.out.trans (hW.mono HBR.out.size)) hB).mono (by have := HBR.out.size; have := hW.size; omega)) hI (Nat.le_refl _) (by omega) (by simp; omega) h12 HR.out
            rw [HRS.out, HWB2.out] at h
            have e : ((s + 1 : Nat) : Int) = (s : Int) + 1 := by omega
            rw [e] at h
            exact h
          have HB0 : Hid (Below wr.heap.size wr wr.drew) := Lib.hid (Below.refl _ _).drew
          have HBE : Hid (Below wr.heap.size wr (wr.alloc (.cells #[] 3)).drew) := Lib.hid ((Below.refl _ _).alloc (Nat.le_refl _) _).drew
          have HBX : Hid (Below wr.heap.size wr (wr.alloc (.cells #[.int .i64 x] 3)).drew) := Lib.hid ((Below.refl _ _).alloc (Nat.le_refl _) _).drew
          have HBEX : Hid (Below wr.heap.size wr ((wr.alloc (.cells #[] 3)).alloc (.cells #[.int .i64 x] 3)).drew) := Lib.hid (((Below.refl _ _).alloc (Nat.le_refl _) _).alloc (by simp) _).drew
          have HBXE : Hid (Below wr.heap.size wr ((wr.alloc (.cells #[.int .i64 x] 3)).alloc (.cells #[] 3)).drew) := Lib.hid (((Below.refl _ _).alloc (Nat.le_refl _) _).alloc (by simp) _).drew
          have HOE : Hid (OwnInts wr.heap.size (wr.alloc (.cells #[] 3)).drew (.slice (some ⟨wr.heap.size, 0, none⟩) 0 0) []) := Lib.hid (OwnInts.made (w := wr) (Nat.le_refl _)).drew'
          have HOEX : Hid (OwnInts wr.heap.size ((wr.alloc (.cells #[] 3)).alloc (.cells #[.int .i64 x] 3)).drew (.slice (some ⟨wr.heap.size, 0, none⟩) 0 0) []) := Lib.hid ((OwnInts.made (w := wr) (Nat.le_refl _)).alloc _).drew'
          have HOXE : Hid (OwnInts wr.heap.size ((wr.alloc (.cells #[.int .i64 x] 3)).alloc (.cells #[] 3)).drew (.slice (some ⟨wr.heap.size + 1, 0, none⟩) 0 0) []) := Lib.hid (OwnInts.made' (B := wr.heap.size) (w := wr.alloc (.cells #[.int .i64 x] 3)) (n := wr.heap.size + 1) (by simp) (by simp)).drew'
          have HCEX : Hid (((wr.alloc (.cells #[] 3)).alloc (.cells #[.int .i64 x] 3)).drew.cell? ⟨wr.heap.size + 1, 0, none⟩ = some (.int .i64 x)) := Lib.hid (by
            have h := (Cell1.new (wr.alloc (.cells #[] 3)) (.int .i64 x) 3).cell
            rw [World.size_alloc] at h
            exact h)
          have HCXE : Hid (((wr.alloc (.cells #[.int .i64 x] 3)).alloc (.cells #[] 3)).drew.cell? ⟨wr.heap.size, 0, none⟩ = some (.int .i64 x)) := Lib.hid ((Cell1.new wr (.int .i64 x) 3).alloc (.cells #[] 3)).cell
          have hzE : (wr.alloc (.cells #[] 3)).drew.heap.size = wr.heap.size + 1 := by simp
          have hzEX : ((wr.alloc (.cells #[] 3)).alloc (.cells #[.int .i64 x] 3)).drew.heap.size = wr.heap.size + 2 := by simp
          have hzXE : ((wr.alloc (.cells #[.int .i64 x] 3)).alloc (.cells #[] 3)).drew.heap.size = wr.heap.size + 2 := by simp
          have HZS := Lib.hid (And.intro hzE (And.intro hzEX hzXE))
          clear hh hx hwa hwb hzx hzE hzEX hzXE
          go_wp2_with (go_at_call 85; refine HPL.out.mono ?_; rintro e w5' ⟨rfl, hw5⟩; rw [hw5]; clear hw5; rw [HN.out])
          go_region_held_law (fun W => W.cell? ⟨b, off + s, none⟩ = some (.slice (some ⟨b2, off2, none⟩) row.length cap2) ∧ W.cell? ⟨b2, off2 + i, none⟩ = some (.int .i64 x))
            (first
              | exact HKP.out _ HB0.out
              | exact HKP.out _ HBE.out
              | exact HKP.out _ HBX.out
              | exact HKP.out _ HBEX.out
              | exact HKP.out _ HBXE.out
              | exact HKP.out _ HB7.out
              | exact HKP.out _ HB6.out
              | exact HKP.out _ HB5.out
              | exact HKP.out _ (HB5.out.alloc HB5.out.size _))
            (first
              | (refine step_append_ints (by rfl) (.tmp 36) (.tmp 37) (by rfl) (B := wr.heap.size) (v := .slice (some ⟨wr.heap.size, 0, none⟩) 0 0) (vx := .slice a1 used.length cap1) (xs := []) used (by rfl) HOE.out (by rfl) (HSU.out _ HBE.out) HZ1.out (by simp; omega) HBE.out.size ?_
                 intro v5 w5 ho5 hg5 hat5
                 have HO5 := Lib.hid ho5
                 have HB5 : Hid (Below wr.heap.size wr w5) := Lib.hid (HBE.out.grown hg5 HBE.out.size (HOE.out.rows'))
                 obtain ⟨a5, n5, c5, rfl⟩ := ho5.form'
                 clear ho5 hg5 hat5)
              | (refine step_append_ints (by rfl) (.tmp 36) (.tmp 37) (by rfl) (B := wr.heap.size) (v := .slice (some ⟨wr.heap.size, 0, none⟩) 0 0) (vx := .slice a1 used.length cap1) (xs := []) used (by rfl) HOEX.out (by rfl) (HSU.out _ HBEX.out) HZ1.out (by simp; omega) HBEX.out.size ?_
                 intro v5 w5 ho5 hg5 hat5
                 have HO5 := Lib.hid ho5
                 have HB5 : Hid (Below wr.heap.size wr w5) := Lib.hid (HBEX.out.grown hg5 HBEX.out.size (HOEX.out.rows'))
                 have HCX5 : Hid (w5.cell? ⟨wr.heap.size + 1, 0, none⟩ = some (.int .i64 x)) := Lib.hid ((hg5.cell_far ⟨wr.heap.size + 1, 0, none⟩ (by simp) (by simp [Value.ownBlock])).trans HCEX.out)
                 obtain ⟨a5, n5, c5, rfl⟩ := ho5.form'
                 clear ho5 hg5 hat5)
              | (refine step_append_ints (by rfl) (.tmp 36) (.tmp 37) (by rfl) (B := wr.heap.size) (v := .slice (some ⟨wr.heap.size + 1, 0, none⟩) 0 0) (vx := .slice a1 used.length cap1) (xs := []) used (by rfl) HOXE.out (by rfl) (HSU.out _ HBXE.out) HZ1.out (by simp; omega) HBXE.out.size ?_
                 intro v5 w5 ho5 hg5 hat5
                 have HO5 := Lib.hid ho5
                 have HB5 : Hid (Below wr.heap.size wr w5) := Lib.hid (HBXE.out.grown hg5 HBXE.out.size (HOXE.out.rows'))
                 have HCX5 : Hid (w5.cell? ⟨wr.heap.size, 0, none⟩ = some (.int .i64 x)) := Lib.hid ((hg5.cell_far ⟨wr.heap.size, 0, none⟩ (by simp; omega) (by simp [Value.ownBlock])).trans HCXE.out)
                 obtain ⟨a5, n5, c5, rfl⟩ := ho5.form'
                 clear ho5 hg5 hat5)
              | (refine step_append_ints (by rfl) (.tmp 38) (.tmp 46) (by rfl) (B := wr.heap.size) (v := .slice a5 n5 c5) (vx := .slice (some ⟨wr.heap.size + 1, 0, none⟩) 1 1) (xs := [] ++ used) [x] (by rfl) HO5.out (by rfl) (src_one HCX5.out rfl) (by simp; exact HZX.out) (by simp; omega) HB5.out.size ?_
                 intro v6 w6 ho6 hg6 hat6
                 have HB6 : Hid (Below wr.heap.size wr w6) := Lib.hid (HB5.out.grown hg6 HB5.out.size HO5.out.rows')
                 have HI6 : Hid (IsInts w6.heap.size w6 v6 (used ++ [x])) := Lib.hid ho6.isInts
                 obtain ⟨a6, n6, c6, rfl⟩ := ho6.form'
                 clear ho6 hg6 hat6)
              | (refine step_append_ints (by rfl) (.tmp 38) (.tmp 46) (by rfl) (B := wr.heap.size) (v := .slice a5 n5 c5) (vx := .slice (some ⟨wr.heap.size, 0, none⟩) 1 1) (xs := [] ++ used) [x] (by rfl) HO5.out (by rfl) (src_one HCX5.out rfl) (by simp; exact HZX.out) (by simp; omega) HB5.out.size ?_
                 intro v6 w6 ho6 hg6 hat6
                 have HB6 : Hid (Below wr.heap.size wr w6) := Lib.hid (HB5.out.grown hg6 HB5.out.size HO5.out.rows')
                 have HI6 : Hid (IsInts w6.heap.size w6 v6 (used ++ [x])) := Lib.hid ho6.isInts
                 obtain ⟨a6, n6, c6, rfl⟩ := ho6.form'
                 clear ho6 hg6 hat6)
              | (refine step_append_ints (by rfl) (.tmp 38) (.tmp 46) (by rfl) (B := wr.heap.size) (v := .slice a5 n5 c5) (vx := .slice (some ⟨w5.heap.size, 0, none⟩) 1 1) (xs := [] ++ used) [x] (by rfl) (HO5.out.alloc _) (by rfl) (src_one (World.cell?_alloc_at _ _ _ _ rfl) rfl) (by simp; exact HZX.out) (by simp; omega) (HB5.out.alloc HB5.out.size (.cells #[.int .i64 x] 3)).size ?_
                 intro v6 w6 ho6 hg6 hat6
                 have HB6 : Hid (Below wr.heap.size wr w6) := Lib.hid ((HB5.out.alloc HB5.out.size (.cells #[.int .i64 x] 3)).grown hg6 (HB5.out.alloc HB5.out.size (.cells #[.int .i64 x] 3)).size HO5.out.rows')
                 have HI6 : Hid (IsInts w6.heap.size w6 v6 (used ++ [x])) := Lib.hid ho6.isInts
                 obtain ⟨a6, n6, c6, rfl⟩ := ho6.form'
                 clear ho6 hg6 hat6)
              | (go_simp
                 go_at_call 60
                 with_reducible refine (HIH.out w6 _ HB6.out HI6.out).mono ?_
                 rintro e w7 ⟨rfl, hb7⟩
                 have HB7 : Hid (Below wr.heap.size wr w7) := Lib.hid (HB6.out.trans (hb7.mono HB6.out.size))
                 clear hb7))
          all_goals
            go_wp2
            go_roundw
            case rel => exact ⟨i + 1, by omega, by go_num, by rw [HS2.out], HBR.out.trans (HB7.out.mono HBR.out.size)⟩
            case measure => simp [intOf]; omega
        · have HN := Lib.hid (idxI_in hh)
          have HS2 : Hid (wpart row rest used (i + 1) = wpart row rest used i) := Lib.hid (by rw [HST.out, hh]; simp)
          have g0 : decide (((used.idxOf (nth row i) : Nat) : Int) < 0) = false := decide_eq_false (by omega)
          clear hh
          go_wp2_with (go_at_call 85; refine HPL.out.mono ?_; rintro e w5' ⟨rfl, hw5⟩; rw [hw5]; clear hw5; rw [HN.out.1])
          go_roundw
          case rel => exact ⟨i + 1, by omega, by go_num, by rw [HS2.out], HBR.out⟩
          case measure => simp [intOf]; omega
      · obtain rfl : i = row.length := by omega
        have HT : Hid (wpart row rest used row.length = waysS (row :: rest) used) := Lib.hid wpart_all
        go_wp2
        go_ret
        exact ⟨by rw [← HT.out]; rfl, HBR.out⟩

end Go.Proofs.Ytndcbnnbgedgcaa

/-
  The walks of frankingref28.Upper, Lower.
-/
set_option linter.unusedVariables false
set_option linter.unusedSimpArgs false
namespace Go.Proofs.Ytndcbnnbgedgcaa
open Go.RowKit

theorem reachL_le {f : Flow} (h : checkE f = 0) (s : Int) : ((reachL f s).length : Int) ≤ f.senders := by
  have := ends_count h
  rw [reachL_eq]
  have := List.length_filter_le (hasB (spotsTo f s f.lots.length) ·) (endsL f)
  omega
theorem matTo_mem {f : Flow} : ∀ {k : Nat} {r : List Int}, r ∈ matTo f k → ∃ s : Int, r = reachL f s
  | 0, r, h => by simp [matTo] at h
  | k + 1, r, h => by
    simp only [matTo] at h
    rcases List.mem_append.1 h with h | h
    · exact matTo_mem h
    · simp at h; exact ⟨k, h⟩
theorem rowsOf_len (f : Flow) : (rowsOf f).length = f.senders.toNat := matTo_len f _
theorem rowsOf_le {f : Flow} (h : checkE f = 0) (h6 : f.senders ≤ 6) : ∀ r ∈ rowsOf f, r.length ≤ 6 := by
  intro r hr
  obtain ⟨s, rfl⟩ := matTo_mem hr
  have := reachL_le h s
  omega
theorem rowsOf_in {f : Flow} : ∀ r ∈ rowsOf f, ∀ x ∈ r, x ∈ endsL f := by
  intro r hr x hx
  obtain ⟨s, rfl⟩ := matTo_mem hr
  rw [reachL_eq] at hx
  exact (List.mem_filter.1 hx).1
theorem matR_ok {f : Flow} (h : checkE f = 0) : matR f = rowsOf f := by unfold matR rowsOf; rw [if_pos h]

set_option maxHeartbeats 2000000 in
set_option maxRecDepth 100000 in
/-- frankingref28.Upper -/
theorem upper28_any (B : Nat) (w : World) (vs vl : Value) (f : Flow) (hf : IsFlow B w vs vl f) (hB : B ≤ w.heap.size) (h6 : f.senders ≤ 6 ∨ 12 < f.senders) :
    Calls Try.prog 28 #[.agg #[vs, vl]] w fun e w' => e = .returned (.tuple #[.int .i64 (upperR f), .int .i64 (upperE f)]) ∧ Below w.heap.size w w' := by
  have HF := Lib.hid hf
  obtain ⟨rfl, ⟨hs1, hs2⟩, hl⟩ := hf
  obtain ⟨b, off, cap, ⟨a, rfl, hcap, hmax, ha⟩, hlen, hc⟩ := hl
  clear hc ha
  have HC := Lib.hid (fun o => check25_any B (w.alloc o) _ _ f (HF.out.below (box_below hB o) (Nat.le_refl _)) (by simp; omega))
  have HER : Hid (upperE f = if checkE f ≠ 0 then checkE f else if 12 < f.senders then 2 else 0) := Lib.hid rfl
  have HRR : Hid (upperR f = if upperE f = 0 then waysS (rowsOf f) [] else 0) := Lib.hid rfl
  obtain ⟨ue, hue⟩ : ∃ x, upperE f = x := ⟨_, rfl⟩
  obtain ⟨ur, hur⟩ : ∃ x, upperR f = x := ⟨_, rfl⟩
  rw [hue] at HER HRR
  rw [hur] at HRR
  rw [hue, hur]
  clear hue hur
  go_enter Try.func28, Try.ntmps28
  go_wp2_with fail
  refine (HC.out _).mono ?_
  rintro e w5 ⟨rfl, hb5⟩
  have HX5 := Lib.hid ((Box.new w #[.int .i64 f.senders, .slice a f.lots.length cap] 24).ext hb5)
  have HW5 : Hid (Below w.heap.size w w5) := Lib.hid ((box_below (Nat.le_refl _) _).trans (hb5.mono (by simp)))
  clear hb5
  obtain ⟨z5, r5⟩ := HX5.out
  by_cases h1 : checkE f = 0
  · have h1' : (checkE f != 0) = false := by simpa using h1
    have H1 := Lib.hid h1
    have HE1 : Hid (ue = if 12 < f.senders then 2 else 0) := Lib.hid (by rw [HER.out, if_neg (by simp [h1])])
    clear h1
    by_cases h2 : 12 < f.senders
    · have h2' : decide (12 < f.senders) = true := decide_eq_true h2
      have HE : Hid (ue = 2) := Lib.hid (by rw [HE1.out, if_pos h2])
      have HR : Hid (ur = 0) := Lib.hid (by rw [HRR.out, HE.out]; rfl)
      go_wp2
      go_ret2
      exact ⟨by rw [HE.out, HR.out]; rfl, HW5.out⟩
    · have h2' : decide (12 < f.senders) = false := decide_eq_false h2
      have HE : Hid (ue = 0) := Lib.hid (by rw [HE1.out, if_neg h2])
      have HR : Hid (ur = waysS (rowsOf f) []) := Lib.hid (by rw [HRR.out, HE.out]; rfl)
      have hs6 : f.senders ≤ 6 := by omega
      have HMR := Lib.hid (matR_ok H1.out)
      go_wp2_with fail
      refine (matrix26_any B w5 _ _ f (HF.out.below HW5.out hB) (by have := HW5.out.size; omega)).mono ?_
      rintro e w6 ⟨vm, rfl, hom, hb6⟩
      rw [HMR.out] at hom
      have HW6 : Hid (Below w.heap.size w w6) := Lib.hid (HW5.out.trans (hb6.mono HW5.out.size))
      have HM6 := Lib.hid hom.isMat
      obtain ⟨bm, om, cm, ⟨am, rfl, _⟩, _⟩ := hom.isMat
      have HWY := Lib.hid (ways28_any _ w6.heap.size w6 _ (.slice none 0 0) (rowsOf f) [] 0 rfl HM6.out ⟨0, 0, 0, ⟨none, rfl, by simp, by omega, Or.inr rfl⟩, by simp, by simp, fun j hj => by simp at hj⟩ (Nat.le_refl _) (by omega) (by simp) (by rw [rowsOf_len]; omega) (rowsOf_le H1.out hs6))
      clear hb6 hom z5 r5
      go_wp2_with fail
      refine HWY.out.mono ?_
      rintro e w7 ⟨rfl, hb7⟩
      have HW7 : Hid (Below w.heap.size w w7) := Lib.hid (HW6.out.trans (hb7.mono HW6.out.size))
      clear hb7
      go_wp2
      go_ret2
      exact ⟨by rw [HE.out, HR.out]; rfl, HW7.out⟩
  · have HE : Hid (ue = checkE f) := Lib.hid (by rw [HER.out, if_pos h1])
    have HR : Hid (ur = 0) := Lib.hid (by rw [HRR.out, HE.out, if_neg h1])
    have h1' : (checkE f != 0) = true := by simpa using h1
    clear h1
    go_wp2
    go_ret2
    exact ⟨by rw [HE.out, HR.out]; rfl, HW5.out⟩

def lowerOk (f : Flow) : Bool := prodB f (lastL f f.lots.length) && prodB f (firstL f f.lots.length)
def lowerE (f : Flow) : Int := if checkE f ≠ 0 then checkE f else if lowerOk f then 0 else 2
def lowerR (f : Flow) : Int := if lowerE f = 0 then (if prodR f (firstL f f.lots.length) ≤ prodR f (lastL f f.lots.length) then prodR f (lastL f f.lots.length) else prodR f (firstL f f.lots.length)) else 0
def lowerL (f : Flow) : List Int := if lowerE f = 0 then (if prodR f (firstL f f.lots.length) ≤ prodR f (lastL f f.lots.length) then lastL f f.lots.length else firstL f f.lots.length) else []

set_option maxHeartbeats 2000000 in
set_option maxRecDepth 100000 in
/-- frankingref28.Lower -/
theorem lower28_any (B : Nat) (w : World) (vs vl : Value) (f : Flow) (hf : IsFlow B w vs vl f) (hB : B ≤ w.heap.size) :
    Calls Try.prog 30 #[.agg #[vs, vl]] w fun e w' => ∃ v, e = .returned (.tuple #[.int .i64 (lowerR f), v, .int .i64 (lowerE f)]) ∧ OwnInts w.heap.size w' v (lowerL f) ∧ Below w.heap.size w w' := by
  have HF := Lib.hid hf
  obtain ⟨rfl, ⟨hs1, hs2⟩, hl⟩ := hf
  obtain ⟨b, off, cap, ⟨a, rfl, hcap, hmax, ha⟩, hlen, hc⟩ := hl
  clear hc ha
  have HC := Lib.hid (fun o => check25_any B (w.alloc o) _ _ f (HF.out.below (box_below hB o) (Nat.le_refl _)) (by simp; omega))
  have HER : Hid (lowerE f = if checkE f ≠ 0 then checkE f else if lowerOk f then 0 else 2) := Lib.hid rfl
  have HOK : Hid (lowerOk f = (prodB f (lastL f f.lots.length) && prodB f (firstL f f.lots.length))) := Lib.hid rfl
  have HRR : Hid (lowerR f = if lowerE f = 0 then (if prodR f (firstL f f.lots.length) ≤ prodR f (lastL f f.lots.length) then prodR f (lastL f f.lots.length) else prodR f (firstL f f.lots.length)) else 0) := Lib.hid rfl
  have HLR : Hid (lowerL f = if lowerE f = 0 then (if prodR f (firstL f f.lots.length) ≤ prodR f (lastL f f.lots.length) then lastL f f.lots.length else firstL f f.lots.length) else []) := Lib.hid rfl
  obtain ⟨ue, hue⟩ : ∃ x, lowerE f = x := ⟨_, rfl⟩
  obtain ⟨ur, hur⟩ : ∃ x, lowerR f = x := ⟨_, rfl⟩
  obtain ⟨ul, hul⟩ : ∃ x, lowerL f = x := ⟨_, rfl⟩
  rw [hue] at HER HRR HLR
  rw [hur] at HRR
  rw [hul] at HLR
  rw [hue, hur, hul]
  clear hue hur hul
  go_enter Try.func30, Try.ntmps30
  go_wp2_with fail
  refine (HC.out _).mono ?_
  rintro e w5 ⟨rfl, hb5⟩
  have HX5 := Lib.hid ((Box.new w #[.int .i64 f.senders, .slice a f.lots.length cap] 24).ext hb5)
  have HW5 : Hid (Below w.heap.size w w5) := Lib.hid ((box_below (Nat.le_refl _) _).trans (hb5.mono (by simp)))
  clear hb5
  obtain ⟨z5, r5⟩ := HX5.out
  by_cases h1 : checkE f = 0
  · have h1' : (checkE f != 0) = false := by simpa using h1
    have H1 := Lib.hid h1
    have HE1 : Hid (ue = if lowerOk f then 0 else 2) := Lib.hid (by rw [HER.out, if_neg (by simp [h1])])
    clear h1
    go_wp2_with fail
    refine (lastL28_any B w5 _ _ f (HF.out.below HW5.out hB) (by have := HW5.out.size; omega) H1.out).mono ?_
    rintro e w6 ⟨vl6, rfl, hol, hb6⟩
    have HX6 := Lib.hid (HX5.out.ext hb6)
    have HW6 : Hid (Below w.heap.size w w6) := Lib.hid (HW5.out.trans (hb6.mono HW5.out.size))
    have HOL6 := Lib.hid (hol.mono HW5.out.size)
    clear hb6 hol z5 r5
    obtain ⟨z6, r6⟩ := HX6.out
    go_wp2_with fail
    refine (firstL28_any B w6 _ _ f (HF.out.below HW6.out hB) (by have := HW6.out.size; omega) H1.out).mono ?_
    rintro e w7 ⟨vf7, rfl, hof, hb7⟩
    have HX7 := Lib.hid (HX6.out.ext hb7)
    have HW7 : Hid (Below w.heap.size w w7) := Lib.hid (HW6.out.trans (hb7.mono HW6.out.size))
    have HOL7 := Lib.hid (HOL6.out.below hb7)
    have HOF7 := Lib.hid (hof.mono HW6.out.size)
    clear hb7 hof z6 r6
    obtain ⟨z7, r7⟩ := HX7.out
    go_wp2_with fail
    refine (product28_any w7.heap.size w7 _ _ _ f (lastL f f.lots.length) ((HF.out.below HW7.out hB).mono (by have := HW7.out.size; omega)) HOL7.out.isInts (Nat.le_refl _) H1.out (lastL_mem f _)).mono ?_
    rintro e w8 ⟨rfl, hb8⟩
    have HX8 := Lib.hid (HX7.out.ext hb8)
    have HW8 : Hid (Below w.heap.size w w8) := Lib.hid (HW7.out.trans (hb8.mono HW7.out.size))
    have HOL8 := Lib.hid (HOL7.out.below hb8)
    have HOF8 := Lib.hid (HOF7.out.below hb8)
    clear hb8 z7 r7
    obtain ⟨z8, r8⟩ := HX8.out
    go_wp2_with fail
    refine (product28_any w8.heap.size w8 _ _ _ f (firstL f f.lots.length) ((HF.out.below HW8.out hB).mono (by have := HW8.out.size; omega)) HOF8.out.isInts (Nat.le_refl _) H1.out (firstL_mem f _)).mono ?_
    rintro e w9 ⟨rfl, hb9⟩
    have HW9 : Hid (Below w.heap.size w w9) := Lib.hid (HW8.out.trans (hb9.mono HW8.out.size))
    have HOL9 := Lib.hid (HOL8.out.below hb9)
    have HOF9 := Lib.hid (HOF8.out.below hb9)
    clear hb9 z8 r8
    obtain ⟨pl, hpl⟩ : ∃ x, prodR f (lastL f f.lots.length) = x := ⟨_, rfl⟩
    obtain ⟨pf, hpf⟩ : ∃ x, prodR f (firstL f f.lots.length) = x := ⟨_, rfl⟩
    obtain ⟨bl, hbl⟩ : ∃ x, prodB f (lastL f f.lots.length) = x := ⟨_, rfl⟩
    obtain ⟨bf, hbf⟩ : ∃ x, prodB f (firstL f f.lots.length) = x := ⟨_, rfl⟩
    rw [hpl, hpf] at HRR HLR
    rw [hbl, hbf] at HOK
    rw [hpl, hpf, hbl, hbf]
    clear hpl hpf hbl hbf
    cases bl
    · have HE : Hid (ue = 2) := Lib.hid (by rw [HE1.out, HOK.out]; rfl)
      have HR : Hid (ur = 0) := Lib.hid (by rw [HRR.out, HE.out]; rfl)
      have HL : Hid (ul = []) := Lib.hid (by rw [HLR.out, HE.out]; rfl)
      go_wp2
      go_ret3
      exact ⟨_, by rw [HE.out, HR.out]; rfl, by rw [HL.out]; exact OwnInts.nil _ _, HW9.out⟩
    · cases bf
      · have HE : Hid (ue = 2) := Lib.hid (by rw [HE1.out, HOK.out]; rfl)
        have HR : Hid (ur = 0) := Lib.hid (by rw [HRR.out, HE.out]; rfl)
        have HL : Hid (ul = []) := Lib.hid (by rw [HLR.out, HE.out]; rfl)
        go_wp2
        go_ret3
        exact ⟨_, by rw [HE.out, HR.out]; rfl, by rw [HL.out]; exact OwnInts.nil _ _, HW9.out⟩
      · have HE : Hid (ue = 0) := Lib.hid (by rw [HE1.out, HOK.out]; rfl)
        by_cases hle : pf ≤ pl
        · have hle' : decide (pf ≤ pl) = true := decide_eq_true hle
          have HR : Hid (ur = pl) := Lib.hid (by rw [HRR.out, HE.out, if_pos rfl, if_pos hle])
          have HL : Hid (ul = lastL f f.lots.length) := Lib.hid (by rw [HLR.out, HE.out, if_pos rfl, if_pos hle])
          go_wp2
          go_ret3
          exact ⟨_, by rw [HE.out, HR.out]; rfl, by rw [HL.out]; exact HOL9.out, HW9.out⟩
        · have hle' : decide (pf ≤ pl) = false := decide_eq_false hle
          have HR : Hid (ur = pf) := Lib.hid (by rw [HRR.out, HE.out, if_pos rfl, if_neg hle])
          have HL : Hid (ul = firstL f f.lots.length) := Lib.hid (by rw [HLR.out, HE.out, if_pos rfl, if_neg hle])
          go_wp2
          go_ret3
          exact ⟨_, by rw [HE.out, HR.out]; rfl, by rw [HL.out]; exact HOF9.out, HW9.out⟩
  · have HE : Hid (ue = checkE f) := Lib.hid (by rw [HER.out, if_pos h1])
    have HR : Hid (ur = 0) := Lib.hid (by rw [HRR.out, HE.out, if_neg h1])
    have HL : Hid (ul = []) := Lib.hid (by rw [HLR.out, HE.out, if_neg h1])
    have h1' : (checkE f != 0) = true := by simpa using h1
    clear h1
    go_wp2
    go_ret3
    exact ⟨_, by rw [HE.out, HR.out]; rfl, by rw [HL.out]; exact OwnInts.nil _ _, HW5.out⟩

end Go.Proofs.Ytndcbnnbgedgcaa

/-
  Loops over functions that write what they captured: what such an iterator promises, and the rule for the loop.
-/
set_option linter.unusedVariables false
set_option linter.unusedSimpArgs false
namespace Go.Proofs.Ytndcbnnbgedgcaa
open Go.RowKit

/-- what an iterator value promises: its n elements are handed to yield in order; D: the blocks that it leans on; M: those of them that it writes itself -/
def IterM (P : Program) (M : Nat → Prop) (gf : FuncId) (lb : Array Value) (n : Nat) (enc : Nat → World → Array Value → Prop) (D : Nat → Prop) (w : World) : Prop :=
  ∀ (l : Nat) (ob : Nat → Prop) (W : World) (J Jx : Nat → Nat → World → Prop),
    Turned (fun k => ¬ D k) w W → (∀ k, ob k → k < W.heap.size ∧ ¬ D k) →
    (∀ s i A B, W.heap.size ≤ s → J s i A → Turned (fun k => M k ∨ (W.heap.size ≤ k ∧ k < s)) A B → J s i B) →
    (∀ s i A B, W.heap.size ≤ s → Jx s i A → Turned (fun k => M k ∨ (W.heap.size ≤ k ∧ k < s)) A B → Jx s i B) →
    (∀ s s' i A, s ≤ s' → s' ≤ A.heap.size → J s i A → J s' i A) →
    (∀ s W1, W.heap.size ≤ s → s ≤ W1.heap.size → Below W.heap.size W W1 → J s 0 W1) →
    (∀ s i W1 args, W.heap.size ≤ s → s ≤ W1.heap.size → i < n → J s i W1 → enc i W1 args → YieldAt Fence.wide 9 P l args W1 fun e W' =>
      (e = .returned (.bool true) ∧ J s (i + 1) W' ∧ Turned (fun k => ob k ∨ s ≤ k) W1 W') ∨ (e = .returned (.bool false) ∧ Jx s i W' ∧ Turned (fun k => ob k ∨ s ≤ k) W1 W')) →
    CallsIn Fence.wide 10 P gf (#[.func (.yield l) #[] #[]] ++ lb) W fun e W' => (∃ v, e = .returned v) ∧ ∃ s, W.heap.size ≤ s ∧ s ≤ W'.heap.size ∧ (J s n W' ∨ ∃ i, i < n ∧ Jx s i W')

/-- the rule for a loop over a function -/
theorem range_lawM {P : Program} {g : Operand} {ps : Array Tmp} {assign body : Code} {Q : Exit → Act → World → Prop} {a : Act} {w : World}
    {gf : FuncId} {lb : Array Value} (hg : a.eval g = .func (.func gf) #[] lb) (eg : Enters P gf) {n : Nat} {enc : Nat → World → Array Value → Prop} {D : Nat → Prop} {w0 : World} {M : Nat → Prop} (hseq : IterM P M gf lb n enc D w0) (hMD : ∀ k, M k → D k)
    (hw0 : Turned (fun k => ¬ D k) w0 w) (hD : ∀ k, D k → k < w0.heap.size) (ob : Nat → Prop) (hob : ∀ k, ob k → k < w.heap.size ∧ ¬ D k)
    (hps : ∀ i W args, enc i W args → args.size = ps.size) (henc : ∀ i A B args, enc i A args → Turned (fun k => w.heap.size ≤ k ∧ k < w.heap.size + 2) A B → enc i B args)
    (I : Nat → Nat → World → Prop) (Ix : Code → Nat → Nat → World → Prop)
    (hI : ∀ s i A B, w.heap.size ≤ s → I s i A → Turned (fun k => M k ∨ (w.heap.size ≤ k ∧ k < s)) A B → I s i B)
    (hIx : ∀ c s i A B, w.heap.size ≤ s → Ix c s i A → Turned (fun k => M k ∨ (w.heap.size ≤ k ∧ k < s)) A B → Ix c s i B)
    (hup : ∀ s s' i A, s ≤ s' → s' ≤ A.heap.size → I s i A → I s' i A)
    (h0 : ∀ s W1, w.heap.size ≤ s → s ≤ W1.heap.size → Below w.heap.size w W1 → I s 0 W1)
    (hround : ∀ (l s i : Nat) (W : World) (args : Array Value), w.heap.size + 2 ≤ s → s ≤ W.heap.size → i < n → I s i W → enc i W args →
      assign.wpIn (Fence.wide.inRound l) 9 P (Exit.then (fun a₁ W₁ => Below W.heap.size W W₁ ∧ ∀ W₂, Turned (fun k => w.heap.size ≤ k ∧ k < w.heap.size + 2) W₁ W₂ → body.wpIn (Fence.wide.inRound l) 9 P (rndPost ob I Ix s i W₂) a₁ W₂) (fun _ _ _ => False)) { tmps := (ps.zip args).foldl (fun t (p, v) => t.setIfInBounds p v) a.tmps, defers := [] } W)
    (hdone : ∀ (d s : Nat) (W : World), w.heap.size ≤ d → d < s → s ≤ W.heap.size → I s n W → W.heap[d]? = some (.deferred (some [])) → Q .normal { a with defers := { target := .collected d, args := #[] } :: a.defers } W)
    (hstop : ∀ (d s i : Nat) (c : Code) (W : World), w.heap.size ≤ d → d < s → s ≤ W.heap.size → i < n → Ix c s i W → W.heap[d]? = some (.deferred (some [])) → c.wpIn Fence.wide 11 P Q { a with defers := { target := .collected d, args := #[] } :: a.defers } W) :
    (Code.rangeFunc g ps assign body).wpIn Fence.wide 11 P Q a w := by
  refine wpIn_rangeFunc ?_
  intro fn hfn
  obtain ⟨rec, hrec⟩ : ∃ rec : LoopState → Option Code → Loop, rec = fun st pe => { state := st, pending := pe, fn, tmps := a.tmps, params := ps, assign, body, defers := w.heap.size } := ⟨_, rfl⟩
  obtain ⟨W1, hW1⟩ : ∃ W1, (w.alloc (.deferred (some []))).alloc (.loop (rec .ready none)) = W1 := ⟨_, rfl⟩
  have hL1 : W1.heap[w.heap.size + 1]? = some (.loop (rec .ready none)) := by
    rw [← hW1]; have := World.alloc_heap_new (w.alloc (.deferred (some []))) (.loop (rec .ready none)); rwa [World.size_alloc] at this
  have hK1 : W1.heap[w.heap.size]? = some (.deferred (some [])) := by
    rw [← hW1]; exact (Below.heap_alloc _ _ _ (by simp)).trans (World.alloc_heap_new w _)
  have hb1 : Below w.heap.size w W1 := by
    rw [← hW1]; exact ((Below.refl _ w).alloc (Nat.le_refl _) _).alloc (by simp) _
  have hs1 : W1.heap.size = w.heap.size + 2 := by rw [← hW1]; simp
  refine ⟨w.heap.size + 1, [{ target := .collected w.heap.size, args := #[] }], W1, { target := .fn (.func gf) lb, args := #[.func (.yield (w.heap.size + 1)) #[] #[]] }, W1, gf,
    #[.func (.yield (w.heap.size + 1)) #[] #[]] ++ lb, W1, ?_, ?_, ?_, ?_, fun _ => by omega, ?_⟩
  · rw [← hW1, hrec]; exact run_enterLoop_outer _ _ _ _ _
  · simp only [resolve, hg]
    simp [go_sem]
  · intro f' _; trivial
  · simp [invoke, go_sem]; exact eg _ _
  · -- the loop's two blocks beside what the caller's invariant says
    have nM : ∀ {k : Nat}, w.heap.size ≤ k → ¬ M k := fun hk hx => by have := hD _ (hMD _ hx); have := hw0.size; omega
    have stay : ∀ {s : Nat} {A B : World}, W1.heap.size ≤ s → Turned (fun k => M k ∨ (W1.heap.size ≤ k ∧ k < s)) A B → ∀ {k : Nat} {o : Obj}, w.heap.size ≤ k ∧ k < w.heap.size + 2 → A.heap[k]? = some o → B.heap[k]? = some o := by
      intro s A B hs ht k o hk ho
      exact (ht.block k (Array.getElem?_eq_some_iff.1 ho).1 (by rintro (h | h); exact nM hk.1 h; omega)).trans ho
    refine (hseq (w.heap.size + 1) (fun k => ob k ∨ k = w.heap.size ∨ k = w.heap.size + 1) W1
      (fun s i W => s ≤ W.heap.size ∧ I s i W ∧ W.heap[w.heap.size + 1]? = some (.loop (rec .ready none)) ∧ W.heap[w.heap.size]? = some (.deferred (some [])))
      (fun s i W => s ≤ W.heap.size ∧ ∃ c, Ix c s i W ∧ W.heap[w.heap.size + 1]? = some (.loop (rec .done (some c))) ∧ W.heap[w.heap.size]? = some (.deferred (some [])))
      (hw0.trans (Turned.of_below hb1))
      (fun k hk => by
        rcases hk with hk | rfl | rfl
        · exact ⟨by have := (hob k hk).1; omega, (hob k hk).2⟩
        · exact ⟨by omega, fun hd => by have := hD _ hd; have := hw0.size; omega⟩
        · exact ⟨by omega, fun hd => by have := hD _ hd; have := hw0.size; omega⟩)
      (fun s i A B hs hj ht => ⟨Nat.le_trans hj.1 ht.size, hI s i A B (by omega) hj.2.1 (ht.mono fun k _ hk => by rcases hk with h | h; exact Or.inl h; exact Or.inr ⟨by omega, h.2⟩), stay hs ht (by omega) hj.2.2.1, stay hs ht (by omega) hj.2.2.2⟩)
      (fun s i A B hs hj ht => by
        obtain ⟨h, c, hc, hl, hk⟩ := hj
        exact ⟨Nat.le_trans h ht.size, c, hIx c s i A B (by omega) hc (ht.mono fun k _ hk => by rcases hk with h | h; exact Or.inl h; exact Or.inr ⟨by omega, h.2⟩), stay hs ht (by omega) hl, stay hs ht (by omega) hk⟩)
      (fun s s' i A h1 h2 hj => ⟨h2, hup s s' i A h1 h2 hj.2.1, hj.2.2⟩)
      (fun s W2 hs hs2 hb2 => ⟨hs2, h0 s W2 (by omega) hs2 (hb1.trans (hb2.mono hb1.size)), (hb2.block _ (by omega)).trans hL1, (hb2.block _ (by omega)).trans hK1⟩)
      ?_).mono ?_
    · -- one round
      rintro s i W args hs hsW hi ⟨_, hiI, hl, hk⟩ hen
      have hlt : w.heap.size + 1 < W.heap.size := (Array.getElem?_eq_some_iff.1 hl).1
      have hy := run_yield (P := P) (args := args) hl (by rw [hrec]; exact hps i W args hen)
      rw [hrec] at hy
      have hrd := hround (w.heap.size + 1) s i W args (by omega) hsW hi hiI hen
      refine ⟨fn, _, assign, body, hy, roundIn_of_wpIn hfn (wpIn_mono hrd ?_)⟩
      rintro e a2 W2 hq
      cases e with
      | normal =>
        obtain ⟨hb2, hbody⟩ := hq
        have hl2 := (hb2.block _ hlt).trans hl
        have hk2 := (hb2.block _ (by omega)).trans hk
        have hlt2 : w.heap.size + 1 < W2.heap.size := (Array.getElem?_eq_some_iff.1 hl2).1
        have hbz : Turned (fun k => w.heap.size ≤ k ∧ k < w.heap.size + 2) W2 (W2.putObj (w.heap.size + 1) (.loop { rec .ready none with state := .busy })) := Turned.putObj _ _ _ ⟨by omega, by omega⟩
        have hl3 : (W2.putObj (w.heap.size + 1) (.loop { rec .ready none with state := .busy })).heap[w.heap.size + 1]? = some (.loop { rec .ready none with state := .busy }) := World.putObj_heap_same hlt2
        have hk3 : (W2.putObj (w.heap.size + 1) (.loop { rec .ready none with state := .busy })).heap[w.heap.size]? = some (.deferred (some [])) := (World.putObj_heap_other (by omega)).trans hk2
        refine ⟨_, run_beginRound hl2 (by rw [hrec]), wpIn_mono (hbody _ hbz) ?_⟩
        have fin : ∀ (jump : Option Code) (W3 : World), Turned (fun k => ob k ∨ s ≤ k) (W2.putObj (w.heap.size + 1) (.loop { rec .ready none with state := .busy })) W3 →
            (Instr.endRound (w.heap.size + 1) jump).run P W3 = .ok (.bool jump.isNone) (W3.putObj (w.heap.size + 1) (.loop (rec (if jump.isNone then .ready else .done) jump))) ∧
            (W3.putObj (w.heap.size + 1) (.loop (rec (if jump.isNone then .ready else .done) jump))).heap[w.heap.size + 1]? = some (.loop (rec (if jump.isNone then .ready else .done) jump)) ∧
            (W3.putObj (w.heap.size + 1) (.loop (rec (if jump.isNone then .ready else .done) jump))).heap[w.heap.size]? = some (.deferred (some [])) ∧
            Turned (fun k => (ob k ∨ k = w.heap.size ∨ k = w.heap.size + 1) ∨ s ≤ k) W (W3.putObj (w.heap.size + 1) (.loop (rec (if jump.isNone then .ready else .done) jump))) ∧
            Turned (fun k => w.heap.size ≤ k ∧ k < s) W3 (W3.putObj (w.heap.size + 1) (.loop (rec (if jump.isNone then .ready else .done) jump))) ∧ s ≤ W3.heap.size := fun jump W3 ht => by
          have nob : ∀ {k : Nat}, w.heap.size ≤ k → ¬ ob k := fun hk hx => by have := (hob _ hx).1; omega
          have q1 := (ht.block _ (by simpa using hlt2) (by rintro (h | h); exact nob (by omega) h; omega)).trans hl3
          have q2 := (ht.block _ (by simp; omega) (by rintro (h | h); exact nob (by omega) h; omega)).trans hk3
          have := run_endRound (P := P) jump q1
          have hz3 := ht.size
          simp at hz3
          have hz2 := hb2.size
          rw [hrec] at this ⊢
          refine ⟨this, World.putObj_heap_same (Array.getElem?_eq_some_iff.1 q1).1, (World.putObj_heap_other (by omega)).trans q2, ?_, Turned.putObj _ _ _ ⟨by omega, by omega⟩, by omega⟩
          have t1 : Turned (fun k => (ob k ∨ k = w.heap.size ∨ k = w.heap.size + 1) ∨ s ≤ k) W W2 := Turned.of_below hb2
          have t2 : Turned (fun k => (ob k ∨ k = w.heap.size ∨ k = w.heap.size + 1) ∨ s ≤ k) W2 (W2.putObj (w.heap.size + 1) (.loop { rec .ready none with state := .busy })) := hbz.mono fun k _ hk => by omega
          have t3 : Turned (fun k => (ob k ∨ k = w.heap.size ∨ k = w.heap.size + 1) ∨ s ≤ k) (W2.putObj (w.heap.size + 1) (.loop { rec .ready none with state := .busy })) W3 := ht.mono fun k _ hk => by
            rcases hk with hk | hk
            · exact Or.inl (Or.inl hk)
            · exact Or.inr hk
          rw [hrec] at t2 t3
          exact t1.trans (t2.trans (t3.trans (Turned.putObj _ _ _ (by omega))))
        rintro e a3 W3 hp
        cases e with
        | normal =>
          obtain ⟨ht3, hi3⟩ := hp
          obtain ⟨hr, hl4, hk4, ht4, ht5, hs3⟩ := fin none W3 ht3
          exact ⟨_, _, hr, .inl ⟨rfl, ⟨by simpa using hs3, hI s (i + 1) _ _ (by omega) hi3 (ht5.mono fun k _ h => Or.inr h), hl4, hk4⟩, ht4⟩⟩
        | ret =>
          obtain ⟨ht3, hi3⟩ := hp
          obtain ⟨hr, hl4, hk4, ht4, ht5, hs3⟩ := fin (some .ret) W3 ht3
          exact ⟨_, _, hr, .inr ⟨rfl, ⟨by simpa using hs3, .ret, hIx _ s i _ _ (by omega) hi3 (ht5.mono fun k _ h => Or.inr h), hl4, hk4⟩, ht4⟩⟩
        | exit id =>
          obtain ⟨ht3, hi3⟩ := hp
          obtain ⟨hr, hl4, hk4, ht4, ht5, hs3⟩ := fin (some (.exit id)) W3 ht3
          exact ⟨_, _, hr, .inr ⟨rfl, ⟨by simpa using hs3, .exit id, hIx _ s i _ _ (by omega) hi3 (ht5.mono fun k _ h => Or.inr h), hl4, hk4⟩, ht4⟩⟩
        | goto t =>
          obtain ⟨ht3, hi3⟩ := hp
          obtain ⟨hr, hl4, hk4, ht4, ht5, hs3⟩ := fin (some (.goto t)) W3 ht3
          exact ⟨_, _, hr, .inr ⟨rfl, ⟨by simpa using hs3, .goto t, hIx _ s i _ _ (by omega) hi3 (ht5.mono fun k _ h => Or.inr h), hl4, hk4⟩, ht4⟩⟩
        | panic ch => exact hp.elim
        | outgrown => exact hp.elim
      | ret => exact hq
      | exit id => exact hq
      | goto t => exact hq
      | panic ch => exact hq
      | outgrown => exact hq
    · -- behind the iterator
      rintro e W2 ⟨⟨v, rfl⟩, s, hs, hsW, (⟨_, hi, hl, hk⟩ | ⟨i, hin, _, c, hi, hl, hk⟩)⟩
      · have ht : Turned (fun k => w.heap.size ≤ k ∧ k < s) W2 (W2.putObj (w.heap.size + 1) (.loop { rec .ready none with state := .exhausted })) := Turned.putObj _ _ _ ⟨by omega, by omega⟩
        exact ⟨none, _, by have := run_endLoop (P := P) hl (by rw [hrec]; simp); rw [hrec] at this; exact this, hdone _ s _ (Nat.le_refl _) (by omega) (by simpa using hsW) (hI s n _ _ (by omega) hi (by rw [hrec] at ht; exact ht.mono fun k _ h => Or.inr h)) ((World.putObj_heap_other (by omega)).trans hk)⟩
      · have ht : Turned (fun k => w.heap.size ≤ k ∧ k < s) W2 (W2.putObj (w.heap.size + 1) (.loop { rec .done (some c) with state := .exhausted })) := Turned.putObj _ _ _ ⟨by omega, by omega⟩
        exact ⟨some c, _, by have := run_endLoop (P := P) hl (by rw [hrec]; simp); rw [hrec] at this; exact this, hstop _ s i c _ (Nat.le_refl _) (by omega) (by simpa using hsW) hin (hIx c s i _ _ (by omega) hi (by rw [hrec] at ht; exact ht.mono fun k _ h => Or.inr h)) ((World.putObj_heap_other (by omega)).trans hk)⟩

end Go.Proofs.Ytndcbnnbgedgcaa
