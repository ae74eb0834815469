/-
  Layer 18: the walk of orders.Resolve.
-/
import Derived.Test.YtmfbabmejbppjaaOr9
import Derived.Test.YtmfbabmejbppjaaOr11
import Derived.Test.YtmfbabmejbppjaaRecS
set_option linter.unusedVariables false
set_option linter.unusedSimpArgs false
namespace Go.Proofs.Ytmfbabmejbppjaa
open Go.RowKit

def orderRS (S : Nat → Prop) (w : World) (c : List Value) (x : OrderD) : Prop := ∃ va, c = orderC va x ∧ IsIntsS S w va x.against ∧ okO x
theorem isIntsS_one {S : Nat → Prop} {w : World} {v : Value} {xs : List Int} (h : IsIntsS S w v xs) : v.oneCell' = true := by
  obtain ⟨b, off, cap, ⟨a, rfl, _⟩, _⟩ := h; rfl
theorem orderSK : RecS 11 orderRS := by
  refine ⟨?_, ?_, ?_⟩
  · rintro S w c d ⟨va, rfl, _⟩; rfl
  · rintro S w c d ⟨va, rfl, h, _⟩ u hu
    simp only [orderC, List.mem_cons, List.not_mem_nil, or_false] at hu
    rcases hu with rfl | rfl | rfl | rfl | rfl | rfl | rfl | rfl | rfl | rfl | rfl
    all_goals first | rfl | exact isIntsS_one h
  · rintro S w w' c d ⟨va, e, h, ho⟩ hk; exact ⟨va, e, h.keep hk, ho⟩
abbrev OwnOrds := OwnDeep 38 11 orderRS 1353245080339 (default : OrderD)
theorem ownOrds_is {C : Nat} {w : World} {v : Value} {xs : List OrderD} (h : OwnOrds C w v xs) : IsOrders w.heap.size w v xs :=
  OwnDeep.isRecs orderSK (fun S c d hS ⟨va, e, h1, h2⟩ => ⟨va, e, h1.ints hS, h2⟩) h
theorem src_order {w : World} {va : Value} {o : OrderD} {C D : Nat} {g : Option Nat} {t : TypeId} (hv : OwnInts D w va o.against) (hk : okO o) (hC : C ≤ D) (hg : ∀ q, g = some q → q < D) :
    SrcDeep 11 orderRS default C g (w.alloc (.cells (orderC va o).toArray t)) (.slice (some ⟨w.heap.size, 0, none⟩) 1 1) [o] := by
  refine srcDeep_one orderSK (cs := orderC va o) (fun q u hq => ?_) (S := fun q => va.ownBlock = some q) (fun q hq => ?_) ⟨va, rfl, (hv.alloc _).intsS, hk⟩
  · rw [World.cell?_alloc_at _ _ _ _ rfl]
    simpa using hq
  · have h1 := hv.1.lt q hq
    exact ⟨by omega, by simp; omega, fun e => by have := hg q e; omega⟩
theorem many1 (w : World) (a x : Int) (t : TypeId) (h1 : I64 a) (k1 : I64 x) : IsMany (w.heap.size + 1) (w.alloc (.cells #[.int .i64 a, .int .i64 x] t)) (.slice (some ⟨w.heap.size, 0, none⟩) 1 1) [(a, x)] := by
  refine ⟨w.heap.size, 0, 1, ⟨_, rfl, Nat.le_refl _, by omega, Or.inl rfl⟩, by simp, fun j hj => ?_⟩
  have hc : ∀ i, (w.alloc (.cells #[.int .i64 a, .int .i64 x] t)).cell? ⟨w.heap.size, i, none⟩ = (#[Value.int .i64 a, .int .i64 x])[i]? := fun i => World.cell?_alloc_at _ _ _ _ rfl
  obtain rfl : j = 0 := by simpa using hj
  refine ⟨[.int .i64 a, .int .i64 x], fun q u hq => ⟨by omega, ?_⟩, rfl, h1, k1⟩
  rw [hc]
  match q, hq with
  | 0, hq => exact hq
  | 1, hq => exact hq

theorem resL_nil {n : NamesD} {l : List WishD} (h : resE n l ≠ 0) : resL n l = [] := by unfold resL; rw [if_neg h]
theorem resE_check {n : NamesD} {l : List WishD} (h : checkN n ≠ 0) : resE n l = checkN n := by unfold resE; rw [if_pos h]
theorem resE_many {n : NamesD} {l : List WishD} (h0 : checkN n = 0) (h : 64 < l.length) : resE n l = 2 := by unfold resE; rw [if_neg (by simp [h0]), if_pos h]
theorem resE_twice {n : NamesD} {l : List WishD} (h0 : checkN n = 0) (h1 : ¬ 64 < l.length) (h : namesDiff l = false) : resE n l = 181 := by
  unfold resE; rw [if_neg (by simp [h0]), if_neg h1, h]; rfl
theorem resE_known {n : NamesD} {l : List WishD} (h0 : checkN n = 0) (h1 : ¬ 64 < l.length) (h2 : namesDiff l = true) (h : l.all (knownB n) = false) : resE n l = 180 := by
  unfold resE; rw [if_neg (by simp [h0]), if_neg h1, h2, h]; rfl
theorem resE_right {n : NamesD} {l : List WishD} (h0 : checkN n = 0) (h1 : ¬ 64 < l.length) (h2 : namesDiff l = true) (h3 : l.all (knownB n) = true) (h : (ordersOf n l).all (rightN n) = false) : resE n l = 182 := by
  unfold resE; rw [if_neg (by simp [h0]), if_neg h1, h2, h3, h]; rfl
theorem resE_ok {n : NamesD} {l : List WishD} (h0 : checkN n = 0) (h1 : ¬ 64 < l.length) (h2 : namesDiff l = true) (h3 : l.all (knownB n) = true) (h : (ordersOf n l).all (rightN n) = true) : resE n l = 0 := by
  unfold resE; rw [if_neg (by simp [h0]), if_neg h1, h2, h3, h]; rfl
/-- what Resolve answers -/
def ResPost (n : NamesD) (l : List WishD) (w : World) (e : Ending) (w' : World) : Prop :=
  ∃ v, e = .returned (.tuple #[v, .int .i64 (resE n l)]) ∧ OwnOrds w.heap.size w' v (resL n l) ∧ Below w.heap.size w w'
theorem ResPost.no {n : NamesD} {l : List WishD} {w w' : World} {q : Int} (h : resE n l = q) (hq : q ≠ 0) (hb : Below w.heap.size w w') : ResPost n l w (.returned (.tuple #[.slice none 0 0, .int .i64 q])) w' :=
  ⟨_, by rw [h], by rw [resL_nil (by rw [h]; exact hq)]; exact OwnDeep.nil, hb⟩

set_option maxHeartbeats 8000000 in
set_option maxRecDepth 100000 in
theorem resolve_any (B : Nat) (w : World) (v : NamesV) (n : NamesD) (vl : Value) (l : List WishD) (hB : B ≤ w.heap.size) (hv : IsNames B w v n) (hs : SmallN n) (hl : IsWishes B w vl l) (hag : ∀ k, k < l.length → (wishAt l k).against.length ≤ 1000000) :
    Calls Try.prog 12 #[v.agg, vl] w (ResPost n l w) := by
  obtain ⟨vo, vp, vc, vh⟩ := v
  obtain ⟨ao, co, e, ho1, ho2, ho3⟩ := hv.o.form
  simp only at e; subst e
  obtain ⟨ap, cp, e, hp1, hp2, hp3⟩ := hv.p.form
  simp only at e; subst e
  obtain ⟨ac, cc, e, hc1, hc2, hc3⟩ := hv.c.form
  simp only at e; subst e
  obtain ⟨bh, oh, ch, ⟨ah, e, hh1, hh2, hh4⟩, hh3, hh5, hh6⟩ := id hv.h
  simp only at e; subst e
  obtain ⟨aw, cw, e, hw1, hw2, hw3⟩ := hl.form
  subst e
  have HV := Lib.hid hv
  have HL := Lib.hid hl
  have HS := Lib.hid hs
  have HAG := Lib.hid hag
  obtain ⟨b0, hb0⟩ : ∃ b, w.heap.size = b := ⟨_, rfl⟩
  obtain ⟨W1, hW1⟩ : ∃ W, w.alloc (.cells #[.slice ao n.offices.length co, .slice ap n.people.length cp, .slice ac n.classes.length cc, .slice ah n.homes.length ch] 25) = W := ⟨_, rfl⟩
  have HB1 : Hid (Below w.heap.size w W1) := Lib.hid (by rw [← hW1]; exact box_below' w _)
  have HX1 : Hid (Box W1 b0 #[.slice ao n.offices.length co, .slice ap n.people.length cp, .slice ac n.classes.length cc, .slice ah n.homes.length ch]) := Lib.hid (by rw [← hW1, ← hb0]; exact Box.new _ _ _)
  have HV1 := Lib.hid (hv.below HB1.out hB)
  have HW1 := Lib.hid hW1
  have HB0 := Lib.hid hb0
  clear hv hl hs hag hh5 hh6 hh4 hW1
  unfold NamesV.agg
  go_enter Try.func12, Try.ntmps12
  go_upto_region 1 with fail
  rw [HW1.out]
  try rw [hb0]
  obtain ⟨_, xr⟩ := HX1.out
  have x0 := xr 0
  have x1 := xr 1
  have x2 := xr 2
  have x3 := xr 3
  simp at x0 x1 x2 x3
  clear xr
  go_wp2_with fail
  refine (read_any B W1 _ n (by have := HB1.out.size; omega) HV1.out HS.out).mono ?_
  rintro e w2 ⟨m0, m1, m2, rfl, hb, hm⟩
  have HB2 : Hid (Below w.heap.size w w2) := Lib.hid (HB1.out.trans (hb.mono HB1.out.size))
  have HX2 := Lib.hid (HX1.out.ext hb)
  have HM2 := Lib.hid hm
  clear hb hm x0 x1 x2 x3
  obtain ⟨E, hE⟩ : ∃ E, checkN n = E := ⟨_, rfl⟩
  rw [hE] at HM2 ⊢
  have HE := Lib.hid hE
  clear hE
  by_cases he : E = 0
  · subst he
    obtain ⟨r0, r1, r2, rfl, rfl, rfl, hm0, hm1, hm2, hr0, hr1, hr2⟩ := HM2.out rfl
    obtain ⟨W3, hW3⟩ : ∃ W, w2.alloc (.cells #[.map (some r0), .map (some r1), .map (some r2)] 53) = W := ⟨_, rfl⟩
    obtain ⟨b1, hb1⟩ : ∃ b, w2.heap.size = b := ⟨_, rfl⟩
    have hb23 : Below w2.heap.size w2 W3 := by rw [← hW3]; exact box_below' _ _
    have HB3 : Hid (Below w.heap.size w W3) := Lib.hid (HB2.out.trans (hb23.mono HB2.out.size))
    have HX3 := Lib.hid (HX2.out.ext hb23)
    have HT3 : Hid (Box W3 b1 #[.map (some r0), .map (some r1), .map (some r2)]) := Lib.hid (by rw [← hW3, ← hb1]; exact Box.new _ _ _)
    have HM3 : Hid (TabAt W3 r0 r1 r2 n) := Lib.hid ⟨hm0.ext hb23, hm1.ext hb23, hm2.ext hb23⟩
    have HW3 := Lib.hid hW3
    have HMN := Lib.hid (many1 W3 (l.length : Int) 64 58 (by unfold I64; omega) (by unfold I64; omega))
    have hx0 := HX3.out.1
    have hx1 := HT3.out.1
    clear hm0 hm1 hm2 hr0 hr1 hr2 hb23 hW3
    go_upto_region 2 with fail
    try rw [HW3.out]
    try rw [hb1]
    go_wp2_with fail
    refine (tooMany_any _ _ _ _ (by simp) HMN.out).mono ?_
    rintro e w4 ⟨rfl, hb⟩
    rw [show List.any [((l.length : Int), (64 : Int))] overB = decide (64 < l.length) by unfold overB; simp; omega]
    have HB4 : Hid (Below W3.heap.size W3 w4) := Lib.hid ((box_below' W3 _).trans (hb.mono (by simp)))
    clear hb
    by_cases hlen : 64 < l.length
    · have HR := Lib.hid (resE_many HE.out hlen)
      rw [decide_eq_true hlen]
      clear hlen
      go_wp2
      go_ret2
      exact ResPost.no HR.out (by omega) (HB3.out.trans (HB4.out.mono HB3.out.size))
    · rw [decide_eq_false hlen]
      have HLEN := Lib.hid hlen
      have hlen2 : l.length ≤ 64 := by omega
      have HX4 := Lib.hid (HX3.out.ext HB4.out)
      have HT4 := Lib.hid (HT3.out.ext HB4.out)
      have HM4 := Lib.hid (HM3.out.ext HB4.out)
      have HBW4 : Hid (Below w.heap.size w w4) := Lib.hid (HB3.out.trans (HB4.out.mono HB3.out.size))
      clear hlen
      go_wp2
      go_loopw [7, 33] (fun nv iv wr => ∃ k, k ≤ l.length ∧ iv = .int .i64 k ∧ OwnStrs w4.heap.size wr nv ((l.take k).map (·.name)) ∧ Below w4.heap.size w4 wr) (fun _ iv _ => l.length - (intOf iv).toNat)
      case atStart => exact ⟨0, by omega, rfl, OwnRecs.nil, Below.refl _ _⟩
      case round =>
        obtain ⟨k, hk, rfl, ho, hbr⟩ := hrel
        obtain ⟨av, nv, cv, rfl⟩ := ho.form'
        have HO := Lib.hid ho
        have HBR := Lib.hid hbr
        have HBWR : Hid (Below w.heap.size w wr) := Lib.hid (HBW4.out.trans (hbr.mono HBW4.out.size))
        have hsz := hbr.size
        clear ho hbr
        by_cases hlt : k < l.length
        · obtain ⟨b, off, va, rfl, bb, hst, hok, g0, g1, g2, g3, g4, g5, g6, g7, g8, g9, g10⟩ := IsWishes.cell (HL.out.below wishK HBWR.out hB) hlt
          obtain ⟨aa, ca, rfl, ha1, ha2, ha3⟩ := hst.form
          have HTK : Hid ((l.take (k + 1)).map (·.name) = (l.take k).map (·.name) ++ [(wishAt l k).name]) := Lib.hid (by rw [List.take_succ_eq_append_getElem hlt, wishAt_get hlt, List.map_append, List.map_singleton])
          have HOK := Lib.hid hok
          clear hst hok
          go_upto_region 10 with fail
          clear g0 g1 g2 g3 g4 g5 g6 g7 g8 g9 g10
          obtain ⟨W5, hW5⟩ : ∃ W, wr.alloc (.cells #[strV (wishAt l k).name, strV (wishAt l k).frm, strV (wishAt l k).to, strV (wishAt l k).cls, .int .i64 (wishAt l k).after, .int .i64 (wishAt l k).by_, .int .i64 (wishAt l k).crowd, .int .i64 (wishAt l k).pay, .slice aa (wishAt l k).against.length ca, .bool (wishAt l k).back, .int .i64 (wishAt l k).els] 41) = W := ⟨_, rfl⟩
          have HB5 : Hid (Below wr.heap.size wr W5) := Lib.hid (by rw [← hW5]; exact box_below' _ _)
          have h0 : W5.cell? ⟨wr.heap.size, 0, none⟩ = some (strV (wishAt l k).name) := by rw [← hW5, World.cell?_alloc_at _ _ _ _ rfl]; rfl
          have HO5 := Lib.hid (HO.out.below strK HB5.out hsz)
          have hsz5 := HB5.out.size
          have h5 : wr.heap.size < W5.heap.size := by rw [← hW5]; simp
          try rw [hW5]
          clear hW5
          go_wp2_with (at_builtin; refine append_recsA strK (by decide) str_inf Try.underlying22 rfl (by decide) (by decide) rfl (.tmp 37) (.tmp 40) rfl (C := w4.heap.size) (v := .slice av nv cv) (vx := .slice (some ⟨W5.heap.size, 0, none⟩) 1 1) (xs := (l.take k).map (·.name)) (ys := [(wishAt l k).name]) rfl (HO5.out.below strK (box_below' W5 _) (by omega)) rfl (srcRecs_one strK (cs := [strV (wishAt l k).name]) (fun q u hq => by rw [World.cell?_alloc_at _ _ _ _ rfl]; simpa using hq) ⟨rfl, HOK.out.1⟩) (by simp; omega) (by simp; omega) ?_; intro v6 w6 ho6 hg6 hat6; obtain ⟨a6, n6, c6, rfl⟩ := ho6.form'; have HO6 := Lib.hid ho6; have HG6 := Lib.hid hg6; clear ho6 hg6 hat6 h0)
          go_roundw
          case rel =>
            refine ⟨k + 1, by omega, by go_num, by rw [HTK.out]; exact HO6.out, ?_⟩
            exact ((HBR.out.trans (HB5.out.mono hsz)).alloc (by omega) _).grown HG6.out (by simp; omega) (fun q e => (HO.out.lt q e).1)
          case measure => simp [intOf]; omega
        · obtain rfl : k = l.length := by omega
          have HON : Hid (OwnStrs w4.heap.size wr (.slice av nv cv) (l.map (·.name))) := Lib.hid (by have := HO.out; rwa [List.take_length] at this)
          have HIS := Lib.hid (HON.out.isRecs strK hsz)
          have HX5 := Lib.hid (HX4.out.below HBR.out HX4.out.1)
          have HT5 := Lib.hid (HT4.out.below HBR.out HT4.out.1)
          have HM5 := Lib.hid (HM4.out.ext HBR.out)
          have HLEN2 := Lib.hid hlen2
          clear hlt hk hlen2
          go_wp2_with fail
          refine (index_any _ wr _ _ HIS.out (Nat.le_refl _) (by have := HLEN2.out; simp; omega)).mono ?_
          rintro e w6 ⟨q0, rfl, _, _, hb⟩
          have HX6 := Lib.hid (HX5.out.ext hb)
          have HT6 := Lib.hid (HT5.out.ext hb)
          have HM6 := Lib.hid (HM5.out.ext hb)
          have HB6 : Hid (Below w.heap.size w w6) := Lib.hid (HBWR.out.trans (hb.mono HBWR.out.size))
          clear hb
          rw [show decide (List.map (fun x => x.name) l).Nodup = namesDiff l from rfl]
          obtain ⟨ND, hND⟩ : ∃ N, namesDiff l = N := ⟨_, rfl⟩
          have HND := Lib.hid hND
          rw [hND]
          clear hND
          cases ND with
          | false =>
            have HR := Lib.hid (resE_twice HE.out HLEN.out HND.out)
            go_wp2
            go_ret2
            exact ResPost.no HR.out (by omega) HB6.out
          | true =>
            obtain ⟨wA, rfl⟩ : ∃ W, W = wr := ⟨_, rfl⟩
            clear HON HIS HX5 HT5 HM5 HBWR HBR HO
            go_wp2
            go_loopw [4, 52] (fun xv iv wr => ∃ k, k ≤ l.length ∧ iv = .int .i64 k ∧ OwnOrds w6.heap.size wr xv ((l.take k).map (orderOf n)) ∧ Below w6.heap.size w6 wr ∧ (l.take k).all (knownB n) = true) (fun _ iv _ => l.length - (intOf iv).toNat)
            case atStart => exact ⟨0, by omega, rfl, OwnDeep.nil, Below.refl _ _, rfl⟩
            case round =>
              obtain ⟨k, hk, rfl, ho, hbr, hal⟩ := hrel
              obtain ⟨ax, nx, cx, rfl⟩ := ho.form'
              have HO := Lib.hid ho
              have HBR := Lib.hid hbr
              have HAL := Lib.hid hal
              have HBWR : Hid (Below w.heap.size w wr) := Lib.hid (HB6.out.trans (hbr.mono HB6.out.size))
              have hsz := hbr.size
              have HXR := Lib.hid (HX6.out.below hbr HX6.out.1)
              have HTR := Lib.hid (HT6.out.below hbr HT6.out.1)
              have HMR := Lib.hid (HM6.out.ext hbr)
              clear ho hbr hal
              by_cases hlt : k < l.length
              · obtain ⟨b, off, va, rfl, bb, hst, hok, g0, g1, g2, g3, g4, g5, g6, g7, g8, g9, g10⟩ := IsWishes.cell (HL.out.below wishK HBWR.out hB) hlt
                obtain ⟨aa, ca, rfl, ha1, ha2, ha3⟩ := hst.form
                have HTK : Hid ((l.take (k + 1)) = l.take k ++ [wishAt l k]) := Lib.hid (by rw [List.take_succ_eq_append_getElem hlt, wishAt_get hlt])
                have HMEM : Hid (wishAt l k ∈ l) := Lib.hid (by rw [wishAt_get hlt]; exact List.getElem_mem hlt)
                have HOK := Lib.hid hok
                have HST := Lib.hid hst
                have HAK := Lib.hid (HAG.out k hlt)
                clear hst hok
                obtain ⟨X, hX⟩ : ∃ X, wishAt l k = X := ⟨_, rfl⟩
                rw [hX] at HTK HMEM HOK HST HAK g0 g1 g2 g3 g4 g5 g6 g7 g8 g9 g10 ha1 ha3
                clear hX
                obtain ⟨W7, hW7⟩ : ∃ W, wr.alloc (.cells (wishC (.slice aa X.against.length ca) X).toArray 41) = W := ⟨_, rfl⟩
                have HB7 : Hid (Below wr.heap.size wr W7) := Lib.hid (by rw [← hW7]; exact box_below' _ _)
                have HK7 : Hid (Box W7 wr.heap.size (wishC (.slice aa X.against.length ca) X).toArray) := Lib.hid (by rw [← hW7]; exact Box.new _ _ _)
                have HX7 := Lib.hid (HXR.out.ext HB7.out)
                have HT7 := Lib.hid (HTR.out.ext HB7.out)
                have HM7 := Lib.hid (HMR.out.ext HB7.out)
                have HO7 := Lib.hid (HO.out.below orderSK HB7.out)
                have HW7 : Hid (wr.alloc (.cells #[strV X.name, strV X.frm, strV X.to, strV X.cls, .int .i64 X.after, .int .i64 X.by_, .int .i64 X.crowd, .int .i64 X.pay, .slice aa X.against.length ca, .bool X.back, .int .i64 X.els] 41) = W7) := Lib.hid hW7
                have hsz7 := HB7.out.size
                clear hW7
                go_upto_region 18 with fail
                rw [HW7.out]
                clear g0 g1 g2 g3 g4 g5 g6 g7 g8 g9 g10
                obtain ⟨_, xr⟩ := HX7.out
                obtain ⟨_, tr⟩ := HT7.out
                obtain ⟨_, kr⟩ := HK7.out
                have x0 := xr 0
                have x1 := xr 1
                have x2 := xr 2
                have x3 := xr 3
                have t0 := tr 0
                have t1 := tr 1
                have t2 := tr 2
                have k0 := kr 0
                have k1 := kr 1
                have k2 := kr 2
                have k3 := kr 3
                have k4 := kr 4
                have k5 := kr 5
                have k6 := kr 6
                have k7 := kr 7
                have k8 := kr 8
                have k9 := kr 9
                have k10 := kr 10
                simp [wishC] at x0 x1 x2 x3 t0 t1 t2 k0 k1 k2 k3 k4 k5 k6 k7 k8 k9 k10
                clear xr tr kr
                go_wp2_with fail
                refine (order_any B W7 ⟨_, _, _, _⟩ n _ X r0 r1 r2 (by have := HBWR.out.size; omega) (HV.out.below (HBWR.out.trans (HB7.out.mono HBWR.out.size)) hB) (HST.out.below strK HB7.out (by have := HBWR.out.size; omega)) HOK.out HM7.out HE.out HS.out HAK.out).mono ?_
                rintro e w8 ⟨vb, o, rfl, hb, hov, hoo, hoe⟩
                clear x0 x1 x2 x3 t0 t1 t2 k0 k1 k2 k3 k4 k5 k6 k7 k8 k9 k10
                obtain ⟨av8, nv8, cv8, rfl⟩ := hov.form'
                have HB8 := Lib.hid hb
                have HOV := Lib.hid hov
                have HOO := Lib.hid hoo
                have HOE := Lib.hid hoe
                have hsz8 := hb.size
                clear hb hov hoo hoe
                rw [show orderV (.slice av8 nv8 cv8) o = .agg #[.int .i64 o.frm, .int .i64 o.person, .int .i64 o.dest, .int .i64 o.cls, .int .i64 o.after, .int .i64 o.by_, .int .i64 o.crowd, .int .i64 o.pay, .slice av8 nv8 cv8, .bool o.back, .int .i64 o.els] from rfl]
                obtain ⟨KN, hKN⟩ : ∃ N, knownB n X = N := ⟨_, rfl⟩
                have HKN := Lib.hid hKN
                rw [hKN] at HOE ⊢
                clear hKN
                cases KN with
                | false =>
                  have HR := Lib.hid (resE_known HE.out HLEN.out HND.out (by
                    rw [List.all_eq_false]
                    exact ⟨X, HMEM.out, by rw [HKN.out]; simp⟩))
                  have HB9 : Hid (Below w.heap.size w (w8.alloc (.cells #[.int .i64 o.frm, .int .i64 o.person, .int .i64 o.dest, .int .i64 o.cls, .int .i64 o.after, .int .i64 o.by_, .int .i64 o.crowd, .int .i64 o.pay, .slice av8 nv8 cv8, .bool o.back, .int .i64 o.els] 38))) := Lib.hid (((HBWR.out.trans (HB7.out.mono HBWR.out.size)).trans (HB8.out.mono (by have := HBWR.out.size; omega))).alloc (by have := HBWR.out.size; omega) _)
                  go_wp2
                  go_ret2
                  exact ResPost.no HR.out (by omega) HB9.out
                | true =>
                  obtain rfl := HOE.out rfl
                  obtain ⟨o, ho⟩ : ∃ o, orderOf n X = o := ⟨_, rfl⟩
                  have HOD := Lib.hid ho
                  rw [ho] at HOV HOO ⊢
                  clear ho HOE
                  obtain ⟨W9, hW9⟩ : ∃ W, w8.alloc (.cells (orderC (.slice av8 nv8 cv8) o).toArray 38) = W := ⟨_, rfl⟩
                  have HB9 : Hid (Below w8.heap.size w8 W9) := Lib.hid (by rw [← hW9]; exact box_below' _ _)
                  have HK9 : Hid (Box W9 w8.heap.size (orderC (.slice av8 nv8 cv8) o).toArray) := Lib.hid (by rw [← hW9]; exact Box.new _ _ _)
                  have HW9 : Hid (w8.alloc (.cells #[.int .i64 o.frm, .int .i64 o.person, .int .i64 o.dest, .int .i64 o.cls, .int .i64 o.after, .int .i64 o.by_, .int .i64 o.crowd, .int .i64 o.pay, .slice av8 nv8 cv8, .bool o.back, .int .i64 o.els] 38) = W9) := Lib.hid hW9
                  have hsz9 := HB9.out.size
                  have HB79 : Hid (Below wr.heap.size wr W9) := Lib.hid ((HB7.out.trans (HB8.out.mono hsz7)).trans (HB9.out.mono (by omega)))
                  have HO9 := Lib.hid (HO.out.below orderSK HB79.out)
                  have HV9 := Lib.hid (HOV.out.below HB9.out)
                  clear hW9
                  go_upto_region 19 with fail
                  rw [HW9.out]
                  obtain ⟨_, kr⟩ := HK9.out
                  have k0 := kr 0
                  have k1 := kr 1
                  have k2 := kr 2
                  have k3 := kr 3
                  have k4 := kr 4
                  have k5 := kr 5
                  have k6 := kr 6
                  have k7 := kr 7
                  have k8 := kr 8
                  have k9 := kr 9
                  have k10 := kr 10
                  simp [orderC] at k0 k1 k2 k3 k4 k5 k6 k7 k8 k9 k10
                  clear kr
                  go_wp2_with (at_builtin; refine append_deepA orderSK (by decide) order_inf Try.underlying30 rfl (by decide) (by decide) rfl (.tmp 65) (.tmp 67) rfl (C := w6.heap.size) (v := .slice ax nx cx) (vx := .slice (some ⟨W9.heap.size, 0, none⟩) 1 1) (xs := (l.take k).map (orderOf n)) (ys := [o]) rfl (HO9.out.below orderSK (box_below' W9 _)) rfl (src_order (D := W7.heap.size) HV9.out HOO.out (by omega) (fun q e => by have := HO.out.lt q e; omega)) (by simp; omega) (by simp; omega) ?_; intro v6 wa ho6 hg6 hat6; obtain ⟨a6, n6, c6, rfl⟩ := ho6.form'; have HO6 := Lib.hid ho6; have HG6 := Lib.hid hg6; clear ho6 hg6 hat6 k0 k1 k2 k3 k4 k5 k6 k7 k8 k9 k10)
                  go_roundw
                  case rel =>
                    refine ⟨k + 1, by omega, by go_num, by rw [HTK.out, List.map_append, List.map_singleton, HOD.out]; exact HO6.out, ?_, by rw [HTK.out, List.all_append, HAL.out]; simp [HKN.out]⟩
                    exact ((HBR.out.trans (HB79.out.mono hsz)).alloc (by omega) _).grown HG6.out (by simp; omega) (fun q e => (HO.out.lt q e).1)
                  case measure => simp [intOf]; omega
              · obtain rfl : k = l.length := by omega
                have ho := HO.out
                have hal := HAL.out
                rw [List.take_length] at ho hal
                have HKA := Lib.hid hal
                obtain ⟨os, hos⟩ : ∃ os, ordersOf n l = os := ⟨_, rfl⟩
                have hos2 : l.map (orderOf n) = os := hos
                rw [hos2] at ho
                obtain ⟨ax', cx', hf⟩ := ho.form
                cases hf
                have HOS := Lib.hid ho
                have HOE := Lib.hid hos
                have HIO := Lib.hid (ownOrds_is ho)
                have hx0 := HXR.out.1
                have hosl : os.length ≤ 64 := by rw [← hos2]; simp; have := HLEN.out; omega
                obtain ⟨wB, rfl⟩ : ∃ W, W = wr := ⟨_, rfl⟩
                clear ho hal hos hos2 hlt hk HO HAL HBR
                go_wp2
                go_loopw [4, 72] (fun xv iv wr => xv = .slice ax os.length cx ∧ ∃ k, k ≤ os.length ∧ iv = .int .i64 k ∧ Below wB.heap.size wB wr ∧ (os.take k).all (rightN n) = true) (fun _ iv _ => os.length - (intOf iv).toNat)
                case atStart => exact ⟨rfl, 0, by omega, rfl, Below.refl _ _, rfl⟩
                case round =>
                  obtain ⟨rfl, k, hk, rfl, hbr, hal⟩ := hrel
                  have HBR := Lib.hid hbr
                  have HAL := Lib.hid hal
                  have HBW : Hid (Below w.heap.size w wr) := Lib.hid (HBWR.out.trans (hbr.mono HBWR.out.size))
                  have HX := Lib.hid (HXR.out.below hbr HXR.out.1)
                  have hsz := hbr.size
                  clear hbr hal
                  by_cases hlt : k < os.length
                  · obtain ⟨b, off, va, rfl, bb, hst, hok, g0, g1, g2, g3, g4, g5, g6, g7, g8, g9, g10⟩ := IsOrders.cell (HIO.out.below orderK HBR.out (Nat.le_refl _)) hlt
                    have hst2 := hst
                    obtain ⟨bv, ov, cv, ⟨av, rfl, _, _, _⟩, _⟩ := hst2
                    have HTK : Hid ((os.take (k + 1)) = os.take k ++ [orderAt os k]) := Lib.hid (by rw [List.take_succ_eq_append_getElem hlt, orderAt_get hlt])
                    have HMEM : Hid (orderAt os k ∈ os) := Lib.hid (by rw [orderAt_get hlt]; exact List.getElem_mem hlt)
                    have HOK := Lib.hid hok
                    have HST := Lib.hid hst
                    clear hst hok
                    obtain ⟨X, hX⟩ : ∃ X, orderAt os k = X := ⟨_, rfl⟩
                    rw [hX] at HTK HMEM HOK HST g0 g1 g2 g3 g4 g5 g6 g7 g8 g9 g10
                    clear hX
                    obtain ⟨W7, hW7⟩ : ∃ W, wr.alloc (.cells (orderC (.slice av X.against.length cv) X).toArray 38) = W := ⟨_, rfl⟩
                    have HB7 : Hid (Below wr.heap.size wr W7) := Lib.hid (by rw [← hW7]; exact box_below' _ _)
                    have HK7 : Hid (Box W7 wr.heap.size (orderC (.slice av X.against.length cv) X).toArray) := Lib.hid (by rw [← hW7]; exact Box.new _ _ _)
                    have HX7 := Lib.hid (HX.out.ext HB7.out)
                    have HW7 : Hid (wr.alloc (.cells #[.int .i64 X.frm, .int .i64 X.person, .int .i64 X.dest, .int .i64 X.cls, .int .i64 X.after, .int .i64 X.by_, .int .i64 X.crowd, .int .i64 X.pay, .slice av X.against.length cv, .bool X.back, .int .i64 X.els] 38) = W7) := Lib.hid hW7
                    have hsz7 := HB7.out.size
                    clear hW7
                    go_upto_region 26 with fail
                    rw [HW7.out]
                    clear g0 g1 g2 g3 g4 g5 g6 g7 g8 g9 g10
                    obtain ⟨_, xr⟩ := HX7.out
                    obtain ⟨_, kr⟩ := HK7.out
                    have x0 := xr 0
                    have x1 := xr 1
                    have x2 := xr 2
                    have k0 := kr 0
                    have k1 := kr 1
                    have k2 := kr 2
                    have k3 := kr 3
                    have k4 := kr 4
                    have k5 := kr 5
                    have k6 := kr 6
                    have k7 := kr 7
                    have k8 := kr 8
                    have k9 := kr 9
                    have k10 := kr 10
                    simp [orderC] at x0 x1 x2 k0 k1 k2 k3 k4 k5 k6 k7 k8 k9 k10
                    clear xr kr
                    go_wp2_with fail
                    refine (right_any W7.heap.size W7 _ X _ _ _ (Nat.le_refl _) (HST.out.below (B' := wr.heap.size) HB7.out (by omega) |>.mono (by omega)) HOK.out).mono ?_
                    rintro e w8 ⟨rfl, hb⟩
                    have HB8 : Hid (Below wr.heap.size wr w8) := Lib.hid (HB7.out.trans (hb.mono hsz7))
                    rw [show rightB X n.offices.length n.people.length n.classes.length = rightN n X from rfl]
                    obtain ⟨RN, hRN⟩ : ∃ N, rightN n X = N := ⟨_, rfl⟩
                    have HRN := Lib.hid hRN
                    rw [hRN]
                    clear hRN hb x0 x1 x2 k0 k1 k2 k3 k4 k5 k6 k7 k8 k9 k10
                    cases RN with
                    | false =>
                      have HR := Lib.hid (resE_right HE.out HLEN.out HND.out HKA.out (by
                        rw [HOE.out, List.all_eq_false]
                        exact ⟨X, HMEM.out, by rw [HRN.out]; simp⟩))
                      go_wp2
                      go_ret2
                      exact ResPost.no HR.out (by omega) (HBW.out.trans (HB8.out.mono HBW.out.size))
                    | true =>
                      go_wp2
                      go_roundw
                      case rel => exact ⟨rfl, k + 1, by omega, by go_num, HBR.out.trans (HB8.out.mono hsz), by rw [HTK.out, List.all_append, HAL.out]; simp [HRN.out]⟩
                      case measure => simp [intOf]; omega
                  · obtain rfl : k = os.length := by omega
                    have HR := Lib.hid (resE_ok HE.out HLEN.out HND.out HKA.out (by rw [HOE.out]; have := HAL.out; rwa [List.take_length] at this))
                    go_wp2
                    go_ret2
                    exact ⟨.slice ax os.length cx, by rw [HR.out]; rfl, by unfold resL; rw [if_pos HR.out, HOE.out]; exact (HOS.out.below orderSK HBR.out).mono HB6.out.size, HBW.out⟩
  · have HR := Lib.hid (resE_check (n := n) (l := l) (by rw [HE.out]; exact he))
    have HNE := Lib.hid he
    obtain ⟨W3, hW3⟩ : ∃ W, w2.alloc (.cells #[.map m0, .map m1, .map m2] 53) = W := ⟨_, rfl⟩
    have HB3 : Hid (Below w.heap.size w W3) := Lib.hid (by rw [← hW3]; exact HB2.out.alloc HB2.out.size _)
    have hn : (E != 0) = true := by simpa using he
    go_wp2
    go_ret2
    exact ResPost.no (by rw [HR.out, HE.out]) HNE.out HB3.out
end Go.Proofs.Ytmfbabmejbppjaa
