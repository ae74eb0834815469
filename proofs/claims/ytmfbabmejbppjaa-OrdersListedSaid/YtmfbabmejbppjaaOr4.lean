/-
  Layer 18: the walks of read, Check.
-/
import Derived.Test.YtmfbabmejbppjaaOr3
set_option linter.unusedVariables false
set_option linter.unusedSimpArgs false
namespace Go.Proofs.Ytmfbabmejbppjaa
open Go.RowKit

structure SmallN (n : NamesD) : Prop where
  o : n.offices.length ≤ 1000000
  p : n.people.length ≤ 1000000
  c : n.classes.length ≤ 1000000
  h : n.homes.length ≤ 1000000
def homesTo (n : NamesD) (k : Nat) : Bool := (n.homes.take k).all (fun h => decide (0 ≤ h) && decide (h < n.offices.length))
theorem homesTo_succ {n : NamesD} {k : Nat} (h : k < n.homes.length) : homesTo n (k + 1) = (homesTo n k && (decide (0 ≤ nth n.homes k) && decide (nth n.homes k < n.offices.length))) := by
  unfold homesTo
  rw [List.take_succ_eq_append_getElem h, List.all_append, nth_eq_getElem h]
  simp
theorem homesTo_all (n : NamesD) : homesTo n n.homes.length = n.homes.all (fun h => decide (0 ≤ h) && decide (h < n.offices.length)) := by unfold homesTo; rw [List.take_length]
theorem IsInts.cellK {B : Nat} {w : World} {a : Option Addr} {c : Nat} {xs : List Int} (h : IsInts B w (.slice a xs.length c) xs) {k : Nat} (hk : k < xs.length) : ∃ b off, a = some ⟨b, off, none⟩ ∧ b < B ∧ w.cell? ⟨b, off + k, none⟩ = some (.int .i64 (nth xs k)) ∧ I64 (nth xs k) := by
  obtain ⟨b, off, cap, ⟨a', he, h2, h3, h4⟩, h5, h6, h7⟩ := h
  cases he
  refine ⟨b, off, ?_, (h7 k hk).1, (h7 k hk).2, h6 _ (by rw [nth_eq_getElem hk]; exact List.getElem_mem hk)⟩
  rcases h4 with h4 | h4
  · exact h4
  · omega
def fineTo (n : NamesD) : Nat → Bool
  | 0 => decide (n.homes.length = n.people.length)
  | 1 => decide (n.homes.length = n.people.length) && n.offices.all nameB
  | 2 => decide (n.homes.length = n.people.length) && n.offices.all nameB && n.people.all nameB
  | _ => decide (n.homes.length = n.people.length) && n.offices.all nameB && n.people.all nameB && n.classes.all nameB
theorem fineTo_1 (n : NamesD) : fineTo n 1 = (fineTo n 0 && n.offices.all nameB) := rfl
theorem fineTo_2 (n : NamesD) : fineTo n 2 = (fineTo n 1 && n.people.all nameB) := rfl
theorem fineTo_3 (n : NamesD) : fineTo n 3 = (fineTo n 2 && n.classes.all nameB) := rfl
theorem fineTo_next {n : NamesD} {k : Nat} (h : fineTo n k = true) : (k = 0 → n.offices.all nameB = fineTo n 1) ∧ (k = 1 → n.people.all nameB = fineTo n 2) ∧ (k = 2 → n.classes.all nameB = fineTo n 3) := by
  refine ⟨?_, ?_, ?_⟩
  · rintro rfl; rw [fineTo_1, h, Bool.true_and]
  · rintro rfl; rw [fineTo_2, h, Bool.true_and]
  · rintro rfl; rw [fineTo_3, h, Bool.true_and]
theorem fineTo_no {n : NamesD} {k : Nat} (h : fineTo n k = false) (hk : k < 3) : fineTo n (k + 1) = false := by
  match k, hk with
  | 0, _ => rw [fineTo_1, h, Bool.false_and]
  | 1, _ => rw [fineTo_2, h, Bool.false_and]
  | 2, _ => rw [fineTo_3, h, Bool.false_and]
def fineH (n : NamesD) (k : Nat) : Bool := fineTo n 3 && homesTo n k
theorem fineH_succ {n : NamesD} {k : Nat} (h : k < n.homes.length) : fineH n (k + 1) = (fineH n k && (decide (0 ≤ nth n.homes k) && decide (nth n.homes k < n.offices.length))) := by
  unfold fineH
  rw [homesTo_succ h, Bool.and_assoc]
def overN (n : NamesD) : Bool := [((n.offices.length : Int), (24 : Int)), ((n.people.length : Int), 1024), ((n.classes.length : Int), 8)].any overB
theorem checkN_over {n : NamesD} (h : overN n = true) : checkN n = 2 := by
  unfold checkN
  rw [if_pos]
  unfold overN overB at h
  simp at h ⊢
  omega
theorem checkN_rest {n : NamesD} (h : overN n = false) : checkN n = if fineTo n 3 && homesTo n n.homes.length && decide n.offices.Nodup && decide n.people.Nodup && decide n.classes.Nodup then 0 else 180 := by
  unfold checkN
  rw [if_neg]
  · have : (namesOk n.offices && namesOk n.people && namesOk n.classes && decide (n.homes.length = n.people.length) && n.homes.all (fun h => decide (0 ≤ h) && decide (h < n.offices.length))) = (fineTo n 3 && homesTo n n.homes.length && decide n.offices.Nodup && decide n.people.Nodup && decide n.classes.Nodup) := by
      rw [homesTo_all]
      unfold namesOk fineTo
      rw [Bool.eq_iff_iff]
      simp only [Bool.and_eq_true]
      constructor <;> (intro h; simp_all)
    rw [this]
  · unfold overN overB at h
    simp at h ⊢
    omega

theorem many3 (w : World) (a b c : Int) (x y z : Int) (t : TypeId) (h1 : I64 a) (h2 : I64 b) (h3 : I64 c) (k1 : I64 x) (k2 : I64 y) (k3 : I64 z) :
    IsMany (w.heap.size + 1) (w.alloc (.cells #[.int .i64 a, .int .i64 x, .int .i64 b, .int .i64 y, .int .i64 c, .int .i64 z] t)) (.slice (some ⟨w.heap.size, 0, none⟩) 3 3) [(a, x), (b, y), (c, z)] := by
  refine ⟨w.heap.size, 0, 3, ⟨_, rfl, Nat.le_refl _, by omega, Or.inl rfl⟩, by simp, fun j hj => ?_⟩
  have hc : ∀ i, (w.alloc (.cells #[.int .i64 a, .int .i64 x, .int .i64 b, .int .i64 y, .int .i64 c, .int .i64 z] t)).cell? ⟨w.heap.size, i, none⟩ = (#[Value.int .i64 a, .int .i64 x, .int .i64 b, .int .i64 y, .int .i64 c, .int .i64 z])[i]? := fun i => World.cell?_alloc_at _ _ _ _ rfl
  match j, hj with
  | 0, _ =>
    refine ⟨[.int .i64 a, .int .i64 x], fun q u hq => ⟨by omega, ?_⟩, rfl, h1, k1⟩
    rw [hc]
    match q, hq with
    | 0, hq => exact hq
    | 1, hq => exact hq
  | 1, _ =>
    refine ⟨[.int .i64 b, .int .i64 y], fun q u hq => ⟨by omega, ?_⟩, rfl, h2, k2⟩
    rw [hc]
    match q, hq with
    | 0, hq => exact hq
    | 1, hq => exact hq
  | 2, _ =>
    refine ⟨[.int .i64 c, .int .i64 z], fun q u hq => ⟨by omega, ?_⟩, rfl, h3, k3⟩
    rw [hc]
    match q, hq with
    | 0, hq => exact hq
    | 1, hq => exact hq

/-- what read answers -/
def ReadPost (n : NamesD) (w : World) (e : Ending) (w' : World) : Prop :=
  ∃ m0 m1 m2 : Option Nat, e = .returned (.tuple #[.agg #[.map m0, .map m1, .map m2], .int .i64 (checkN n)]) ∧ Below w.heap.size w w' ∧
    (checkN n = 0 → ∃ r0 r1 r2, m0 = some r0 ∧ m1 = some r1 ∧ m2 = some r2 ∧ NameMap w' r0 n.offices ∧ NameMap w' r1 n.people ∧ NameMap w' r2 n.classes ∧ w.heap.size ≤ r0 ∧ w.heap.size ≤ r1 ∧ w.heap.size ≤ r2)

set_option maxHeartbeats 8000000 in
set_option maxRecDepth 100000 in
theorem read_any (B : Nat) (w : World) (v : NamesV) (n : NamesD) (hB : B ≤ w.heap.size) (hv : IsNames B w v n) (hs : SmallN n) :
    Calls Try.prog 24 #[v.agg] w (ReadPost n w) := by
  obtain ⟨vo, vp, vc, vh⟩ := v
  obtain ⟨ao, co, e, ho1, ho2, ho3⟩ := hv.o.form
  simp only at e; subst e
  obtain ⟨ap, cp, e, hp1, hp2, hp3⟩ := hv.p.form
  simp only at e; subst e
  obtain ⟨ac, cc, e, hc1, hc2, hc3⟩ := hv.c.form
  simp only at e; subst e
  obtain ⟨bh, oh, ch, ⟨ah, e, hh1, hh2, hh4⟩, hh3, hh5, hh6⟩ := hv.h
  simp only at e; subst e
  have HV := Lib.hid hv
  obtain ⟨s1, s2, s3, s4⟩ := hs
  have hm3 := many3 ((w.alloc (.cells #[.slice ao n.offices.length co, .slice ap n.people.length cp, .slice ac n.classes.length cc, .slice ah n.homes.length ch] 25)).alloc (.cells #[.map none, .map none, .map none] 53)) n.offices.length n.people.length n.classes.length 24 1024 8 58 (by unfold I64; omega) (by unfold I64; omega) (by unfold I64; omega) (by unfold I64; omega) (by unfold I64; omega) (by unfold I64; omega)
  simp only [World.size_alloc] at hm3
  have HM3 := Lib.hid hm3
  clear hm3
  have HX0 := Lib.hid ((Box.new w #[.slice ao n.offices.length co, .slice ap n.people.length cp, .slice ac n.classes.length cc, .slice ah n.homes.length ch] 25))
  have HT0 := Lib.hid (CellsN.new (w.alloc (.cells #[.slice ao n.offices.length co, .slice ap n.people.length cp, .slice ac n.classes.length cc, .slice ah n.homes.length ch] 25)) #[.map none, .map none, .map none] 53)
  clear hv hh6 hh5
  unfold NamesV.agg
  go_enter Try.func24, Try.ntmps24
  go_wp2_with fail
  refine (tooMany_any _ _ _ _ (by simp) HM3.out).mono ?_
  rintro e w1 ⟨rfl, hb⟩
  rw [show List.any [((n.offices.length : Int), (24 : Int)), ((n.people.length : Int), 1024), ((n.classes.length : Int), 8)] overB = overN n from rfl]
  have HX1 : Hid (Box w1 w.heap.size #[.slice ao n.offices.length co, .slice ap n.people.length cp, .slice ac n.classes.length cc, .slice ah n.homes.length ch]) := Lib.hid (((HX0.out.alloc _).alloc _).ext hb)
  have HT1 : Hid (CellsN w1 (w.heap.size + 1) #[.map none, .map none, .map none]) := Lib.hid (by have := HT0.out; rw [World.size_alloc] at this; exact (this.alloc _).ext hb)
  have HB1 : Hid (Below w.heap.size w w1) := Lib.hid ((((Below.refl _ w).alloc (Nat.le_refl _) _).alloc (by simp) _).alloc (by simp; omega) _ |>.trans (hb.mono (by simp; omega)))
  have HV1 := Lib.hid (HV.out.below HB1.out hB)
  have hz1 := HT1.out.lt
  clear hb
  obtain ⟨x0, xr⟩ := HX1.out
  have r0 := xr 0
  have r1 := xr 1
  have r2 := xr 2
  have r3 := xr 3
  simp at r0 r1 r2 r3
  cases ho : overN n with
  | true =>
    have HE := Lib.hid (checkN_over ho)
    have c0 := HT1.out.cell 0
    have c1 := HT1.out.cell 1
    have c2 := HT1.out.cell 2
    have f0 := HT1.out.free 0
    have f1 := HT1.out.free 1
    have f2 := HT1.out.free 2
    simp at c0 c1 c2
    clear ho xr
    go_wp2
    have hN := ((HT1.out.set 0 (.map none)).set 1 (.map none)).set 2 (.map none)
    have n0 := hN.cell 0
    have n1 := hN.cell 1
    have n2 := hN.cell 2
    simp at n0 n1 n2
    refine bodyPost_ret (v := .tuple #[.agg #[.map none, .map none, .map none], .int .i64 2]) (by simp [results, Try.results24, go_sem, n0, n1, n2]) rfl ⟨none, none, none, by rw [HE.out], ((HB1.out.setCell (by show w.heap.size ≤ w.heap.size + 1; omega) _).setCell (by show w.heap.size ≤ w.heap.size + 1; omega) _).setCell (by show w.heap.size ≤ w.heap.size + 1; omega) _, fun h => by rw [HE.out] at h; cases h⟩
  | false =>
    have HCK := Lib.hid (checkN_rest ho)
    clear ho xr
    go_wp2
    obtain ⟨W4, hW4⟩ : ∃ W, w1.alloc (.cells #[.slice ao n.offices.length co, .slice ap n.people.length cp, .slice ac n.classes.length cc] 22) = W := ⟨_, rfl⟩
    have HB4 : Hid (Below w.heap.size w W4) := Lib.hid (by rw [← hW4]; exact HB1.out.alloc HB1.out.size _)
    have HX4 : Hid (Box W4 w.heap.size #[.slice ao n.offices.length co, .slice ap n.people.length cp, .slice ac n.classes.length cc, .slice ah n.homes.length ch]) := Lib.hid (by rw [← hW4]; exact HX1.out.alloc _)
    have HT4 : Hid (CellsN W4 (w.heap.size + 1) #[.map none, .map none, .map none]) := Lib.hid (by rw [← hW4]; exact HT1.out.alloc _)
    have HY4 : Hid (Box W4 w1.heap.size #[.slice ao n.offices.length co, .slice ap n.people.length cp, .slice ac n.classes.length cc]) := Lib.hid (by rw [← hW4]; exact Box.new _ _ _)
    have HV4 := Lib.hid (HV.out.below HB4.out hB)
    have hz4 := HT4.out.lt
    have hF0 : (((n.homes.length : Int) == (n.people.length : Int))) = fineTo n 0 := by
      unfold fineTo
      rw [Bool.eq_iff_iff]
      simp
      omega
    rw [hW4]
    rw [hF0]
    obtain ⟨_, yr⟩ := HY4.out
    have y0 := yr 0
    have y1 := yr 1
    have y2 := yr 2
    simp at y0 y1 y2
    clear hW4 r0 r1 r2 r3 hF0 yr x0
    go_loop [4, 42] (fun fv iv => ∃ k : Nat, k ≤ 3 ∧ iv = .int .i64 k ∧ fv = .bool (fineTo n k)) (fun fv iv => 3 - (intOf iv).toNat)
    case atStart => exact ⟨0, by omega, rfl, rfl⟩
    case round =>
      obtain ⟨k, hk, rfl, rfl⟩ := hrel
      by_cases hlt : k < 3
      · have hk3 : k = 0 ∨ k = 1 ∨ k = 2 := by omega
        clear hk hlt
        rcases hk3 with rfl | rfl | rfl
        · cases hf : fineTo n 0 with
          | true =>
            have HN := Lib.hid ((fineTo_next hf).1 rfl)
            clear hf
            go_wp2_with fail
            refine (contS_any B W4 _ n.offices HV4.out.o).mono ?_
            rintro e w5 ⟨rfl, hw⟩
            rw [hw, HN.out]
            clear hw
            go_wp2
            go_round
            case rel => exact ⟨1, by omega, by go_num, by first | rfl | simp⟩
            case measure => simp [intOf]
          | false =>
            have HN := Lib.hid (fineTo_no hf (by omega))
            clear hf
            go_wp2
            go_round
            case rel => exact ⟨1, by omega, by go_num, by rw [show fineTo n 1 = false from HN.out]⟩
            case measure => simp [intOf]
        · cases hf : fineTo n 1 with
          | true =>
            have HN := Lib.hid ((fineTo_next hf).2.1 rfl)
            clear hf
            go_wp2_with fail
            refine (contS_any B W4 _ n.people HV4.out.p).mono ?_
            rintro e w5 ⟨rfl, hw⟩
            rw [hw, HN.out]
            clear hw
            go_wp2
            go_round
            case rel => exact ⟨2, by omega, by go_num, by first | rfl | simp⟩
            case measure => simp [intOf]
          | false =>
            have HN := Lib.hid (fineTo_no hf (by omega))
            clear hf
            go_wp2
            go_round
            case rel => exact ⟨2, by omega, by go_num, by rw [show fineTo n 2 = false from HN.out]⟩
            case measure => simp [intOf]
        · cases hf : fineTo n 2 with
          | true =>
            have HN := Lib.hid ((fineTo_next hf).2.2 rfl)
            clear hf
            go_wp2_with fail
            refine (contS_any B W4 _ n.classes HV4.out.c).mono ?_
            rintro e w5 ⟨rfl, hw⟩
            rw [hw, HN.out]
            clear hw
            go_wp2
            go_round
            case rel => exact ⟨3, by omega, by go_num, by first | rfl | simp⟩
            case measure => simp [intOf]
          | false =>
            have HN := Lib.hid (fineTo_no hf (by omega))
            clear hf
            go_wp2
            go_round
            case rel => exact ⟨3, by omega, by go_num, by rw [show fineTo n 3 = false from HN.out]⟩
            case measure => simp [intOf]
      · obtain rfl : k = 3 := by omega
        clear y0 y1 y2 hlt hk
        obtain ⟨_, xr⟩ := HX4.out
        have r0 := xr 0
        have r1 := xr 1
        have r2 := xr 2
        have r3 := xr 3
        simp at r0 r1 r2 r3
        clear xr
        have hFH : fineTo n 3 = fineH n 0 := by unfold fineH homesTo; simp
        go_wp2
        try rw [hFH]
        clear hFH
        go_loop [4, 56] (fun fv iv => ∃ k : Nat, k ≤ n.homes.length ∧ iv = .int .i64 k ∧ fv = .bool (fineH n k)) (fun fv iv => n.homes.length - (intOf iv).toNat)
        case atStart => exact ⟨0, by omega, rfl, rfl⟩
        case round =>
          obtain ⟨k, hk, rfl, rfl⟩ := hrel
          by_cases hlt : k < n.homes.length
          · obtain ⟨b, off, rfl, bb, g0, gl⟩ := IsInts.cellK HV4.out.h hlt
            have HFS := Lib.hid (fineH_succ hlt)
            cases hf : fineH n k with
            | false =>
              have HN : Hid (fineH n (k + 1) = false) := Lib.hid (by rw [HFS.out, hf]; rfl)
              clear hf
              go_wp2
              go_round
              case rel => exact ⟨k + 1, by omega, by go_num, by rw [HN.out]⟩
              case measure => simp [intOf]; omega
            | true =>
              have HN : Hid (fineH n (k + 1) = (decide (0 ≤ nth n.homes k) && decide (nth n.homes k < n.offices.length))) := Lib.hid (by rw [HFS.out, hf]; rfl)
              clear hf
              obtain ⟨hh, hhe⟩ : ∃ hh, nth n.homes k = hh := ⟨_, rfl⟩
              rw [hhe] at g0 HN
              clear hhe gl
              by_cases h0 : 0 ≤ hh
              · by_cases h1 : hh < n.offices.length
                · have HN2 : Hid (fineH n (k + 1) = true) := Lib.hid (by rw [HN.out, decide_eq_true h0, decide_eq_true h1]; rfl)
                  go_wp2
                  go_round
                  case rel => exact ⟨k + 1, by omega, by go_num, by rw [HN2.out]⟩
                  case measure => simp [intOf]; omega
                · have HN2 : Hid (fineH n (k + 1) = false) := Lib.hid (by rw [HN.out, decide_eq_false h1, Bool.and_false])
                  go_wp2
                  go_round
                  case rel => exact ⟨k + 1, by omega, by go_num, by rw [HN2.out]⟩
                  case measure => simp [intOf]; omega
              · have HN2 : Hid (fineH n (k + 1) = false) := Lib.hid (by rw [HN.out, decide_eq_false h0]; rfl)
                go_wp2
                go_round
                case rel => exact ⟨k + 1, by omega, by go_num, by rw [HN2.out]⟩
                case measure => simp [intOf]; omega
          · obtain rfl : k = n.homes.length := by omega
            clear hlt hk
            obtain ⟨F, hF⟩ : ∃ F, fineH n n.homes.length = F := ⟨_, rfl⟩
            have HF := Lib.hid hF
            rw [hF]
            clear hF
            obtain ⟨_, xr⟩ := HX4.out
            have r0 := xr 0
            have r1 := xr 1
            have r2 := xr 2
            have r3 := xr 3
            simp at r0 r1 r2 r3
            clear xr
            go_wp2_with fail
            refine (index_any B W4 _ n.offices HV4.out.o (by have := HB4.out.size; omega) s1).mono ?_
            rintro e W5 ⟨q0, rfl, hm, hq, hb⟩
            have HB5 : Hid (Below w.heap.size w W5) := Lib.hid (HB4.out.trans (hb.mono HB4.out.size))
            have HX5 := Lib.hid (HX4.out.ext hb)
            have HT5 := Lib.hid (HT4.out.ext hb)
            have HM05 := Lib.hid hm
            have hq0 : w.heap.size + 1 < q0 := by have := HT4.out.lt; omega
            clear hm hq hb r0 r1 r2 r3
            have f0 := HT5.out.free 0
            have c0 := HT5.out.cell 0
            simp at c0
            have HT6 : Hid (CellsN (W5.setCell ⟨w.heap.size + 1, 0, none⟩ (.map (some q0))) (w.heap.size + 1) #[.map (some q0), .map none, .map none]) := Lib.hid (HT5.out.set 0 _)
            have HB6 : Hid (Below w.heap.size w (W5.setCell ⟨w.heap.size + 1, 0, none⟩ (.map (some q0)))) := Lib.hid (HB5.out.setCell (by show w.heap.size ≤ w.heap.size + 1; omega) _)
            have HX6 := Lib.hid (HX5.out.grown (grown_setCell W5 ⟨w.heap.size + 1, 0, none⟩ (.map (some q0))) (by simp))
            have HM06 := Lib.hid (StrMap.setCell HM05.out ⟨w.heap.size + 1, 0, none⟩ (.map (some q0)) (by show q0 ≠ w.heap.size + 1; omega))
            obtain ⟨W6, hW6⟩ : ∃ W, W5.setCell ⟨w.heap.size + 1, 0, none⟩ (.map (some q0)) = W := ⟨_, rfl⟩
            rw [hW6] at HT6 HB6 HX6 HM06
            have HV6 := Lib.hid (HV.out.below HB6.out hB)
            go_upto_region 16 with fail
            try rw [hW6]
            clear hW6 f0 c0
            obtain ⟨_, xr⟩ := HX6.out
            have r0 := xr 0
            have r1 := xr 1
            have r2 := xr 2
            have r3 := xr 3
            simp at r0 r1 r2 r3
            clear xr
            go_wp2_with fail
            refine (index_any B W6 _ n.people HV6.out.p (by have := HB6.out.size; omega) s2).mono ?_
            rintro e W7 ⟨q1, rfl, hm, hq, hb⟩
            have HB7 : Hid (Below w.heap.size w W7) := Lib.hid (HB6.out.trans (hb.mono HB6.out.size))
            have HX7 := Lib.hid (HX6.out.ext hb)
            have HT7 := Lib.hid (HT6.out.ext hb)
            have HM17 := Lib.hid hm
            have hq1 : w.heap.size + 1 < q1 := by have := HT6.out.lt; omega
            have HM07 := Lib.hid (HM06.out.ext hb)
            clear hm hq hb r0 r1 r2 r3
            have f1 := HT7.out.free 1
            have c1 := HT7.out.cell 1
            simp at c1
            have HT8 : Hid (CellsN (W7.setCell ⟨w.heap.size + 1, 1, none⟩ (.map (some q1))) (w.heap.size + 1) #[.map (some q0), .map (some q1), .map none]) := Lib.hid (HT7.out.set 1 _)
            have HB8 : Hid (Below w.heap.size w (W7.setCell ⟨w.heap.size + 1, 1, none⟩ (.map (some q1)))) := Lib.hid (HB7.out.setCell (by show w.heap.size ≤ w.heap.size + 1; omega) _)
            have HX8 := Lib.hid (HX7.out.grown (grown_setCell W7 ⟨w.heap.size + 1, 1, none⟩ (.map (some q1))) (by simp))
            have HM08 := Lib.hid (StrMap.setCell HM07.out ⟨w.heap.size + 1, 1, none⟩ (.map (some q1)) (by show q0 ≠ w.heap.size + 1; omega))
            have HM18 := Lib.hid (StrMap.setCell HM17.out ⟨w.heap.size + 1, 1, none⟩ (.map (some q1)) (by show q1 ≠ w.heap.size + 1; omega))
            obtain ⟨W8, hW8⟩ : ∃ W, W7.setCell ⟨w.heap.size + 1, 1, none⟩ (.map (some q1)) = W := ⟨_, rfl⟩
            rw [hW8] at HT8 HB8 HX8 HM08 HM18
            have HV8 := Lib.hid (HV.out.below HB8.out hB)
            go_upto_region 17 with fail
            try rw [hW8]
            clear hW8 f1 c1
            obtain ⟨_, xr⟩ := HX8.out
            have r0 := xr 0
            have r1 := xr 1
            have r2 := xr 2
            have r3 := xr 3
            simp at r0 r1 r2 r3
            clear xr
            go_wp2_with fail
            refine (index_any B W8 _ n.classes HV8.out.c (by have := HB8.out.size; omega) s3).mono ?_
            rintro e W9 ⟨q2, rfl, hm, hq, hb⟩
            have HB9 : Hid (Below w.heap.size w W9) := Lib.hid (HB8.out.trans (hb.mono HB8.out.size))
            have HX9 := Lib.hid (HX8.out.ext hb)
            have HT9 := Lib.hid (HT8.out.ext hb)
            have HM29 := Lib.hid hm
            have hq2 : w.heap.size + 1 < q2 := by have := HT8.out.lt; omega
            have HM09 := Lib.hid (HM08.out.ext hb)
            have HM19 := Lib.hid (HM18.out.ext hb)
            clear hm hq hb r0 r1 r2 r3
            have f2 := HT9.out.free 2
            have c2 := HT9.out.cell 2
            simp at c2
            have HT10 : Hid (CellsN (W9.setCell ⟨w.heap.size + 1, 2, none⟩ (.map (some q2))) (w.heap.size + 1) #[.map (some q0), .map (some q1), .map (some q2)]) := Lib.hid (HT9.out.set 2 _)
            have HB10 : Hid (Below w.heap.size w (W9.setCell ⟨w.heap.size + 1, 2, none⟩ (.map (some q2)))) := Lib.hid (HB9.out.setCell (by show w.heap.size ≤ w.heap.size + 1; omega) _)
            have HX10 := Lib.hid (HX9.out.grown (grown_setCell W9 ⟨w.heap.size + 1, 2, none⟩ (.map (some q2))) (by simp))
            have HM010 := Lib.hid (StrMap.setCell HM09.out ⟨w.heap.size + 1, 2, none⟩ (.map (some q2)) (by show q0 ≠ w.heap.size + 1; omega))
            have HM110 := Lib.hid (StrMap.setCell HM19.out ⟨w.heap.size + 1, 2, none⟩ (.map (some q2)) (by show q1 ≠ w.heap.size + 1; omega))
            have HM210 := Lib.hid (StrMap.setCell HM29.out ⟨w.heap.size + 1, 2, none⟩ (.map (some q2)) (by show q2 ≠ w.heap.size + 1; omega))
            obtain ⟨W10, hW10⟩ : ∃ W, W9.setCell ⟨w.heap.size + 1, 2, none⟩ (.map (some q2)) = W := ⟨_, rfl⟩
            rw [hW10] at HT10 HB10 HX10 HM010 HM110 HM210
            have HV10 := Lib.hid (HV.out.below HB10.out hB)
            go_upto_region 18 with fail
            try rw [hW10]
            clear hW10 f2 c2
            obtain ⟨D0, hD0⟩ : ∃ D, decide n.offices.Nodup = D := ⟨_, rfl⟩
            obtain ⟨D1, hD1⟩ : ∃ D, decide n.people.Nodup = D := ⟨_, rfl⟩
            obtain ⟨D2, hD2⟩ : ∃ D, decide n.classes.Nodup = D := ⟨_, rfl⟩
            have HE : Hid (checkN n = if F && D0 && D1 && D2 then 0 else 180) := Lib.hid (by rw [HCK.out, ← HF.out, ← hD0, ← hD1, ← hD2]; rfl)
            rw [hD0, hD1, hD2]
            clear hD0 hD1 hD2
            have k0 := HT10.out.cell 0
            have k1 := HT10.out.cell 1
            have k2 := HT10.out.cell 2
            have f0 := HT10.out.free 0
            have f1 := HT10.out.free 1
            have f2 := HT10.out.free 2
            simp at k0 k1 k2
            have hN := ((HT10.out.set 0 (.map (some q0))).set 1 (.map (some q1))).set 2 (.map (some q2))
            have n0 := hN.cell 0
            have n1 := hN.cell 1
            have n2 := hN.cell 2
            simp at n0 n1 n2
            have HBE : Hid (Below w.heap.size w (((W10.setCell ⟨w.heap.size + 1, 0, none⟩ (.map (some q0))).setCell ⟨w.heap.size + 1, 1, none⟩ (.map (some q1))).setCell ⟨w.heap.size + 1, 2, none⟩ (.map (some q2)))) := Lib.hid (((HB10.out.setCell (by show w.heap.size ≤ w.heap.size + 1; omega) _).setCell (by show w.heap.size ≤ w.heap.size + 1; omega) _).setCell (by show w.heap.size ≤ w.heap.size + 1; omega) _)
            have HME : Hid (∀ r xs, NameMap W10 r xs → r ≠ w.heap.size + 1 → NameMap (((W10.setCell ⟨w.heap.size + 1, 0, none⟩ (.map (some q0))).setCell ⟨w.heap.size + 1, 1, none⟩ (.map (some q1))).setCell ⟨w.heap.size + 1, 2, none⟩ (.map (some q2))) r xs) := Lib.hid (fun r xs h hne => ((StrMap.setCell h _ _ hne).setCell _ _ hne).setCell _ _ hne)
            have HN0 := Lib.hid n0
            have HN1 := Lib.hid n1
            have HN2 := Lib.hid n2
            clear hN n0 n1 n2
            cases F <;> cases D0 <;> cases D1 <;> cases D2
            all_goals
              go_wp2
              have n0 := HN0.out
              have n1 := HN1.out
              have n2 := HN2.out
              first
              | refine bodyPost_ret (v := .tuple #[.agg #[.map (some q0), .map (some q1), .map (some q2)], .int .i64 180]) (by simp [results, Try.results24, go_sem, n0, n1, n2]) rfl ⟨some q0, some q1, some q2, by rw [HE.out]; rfl, HBE.out, fun h => by rw [HE.out] at h; cases h⟩
              | refine bodyPost_ret (v := .tuple #[.agg #[.map (some q0), .map (some q1), .map (some q2)], .int .i64 0]) (by simp [results, Try.results24, go_sem, n0, n1, n2]) rfl ⟨some q0, some q1, some q2, by rw [HE.out]; rfl, HBE.out, fun _ => ⟨q0, q1, q2, rfl, rfl, rfl, HME.out _ _ HM010.out (by omega), HME.out _ _ HM110.out (by omega), HME.out _ _ HM210.out (by omega), by omega, by omega, by omega⟩⟩
end Go.Proofs.Ytmfbabmejbppjaa
