/-
  Layer 18: the walk of frankinglaw18.OrdersEach (printed by tools/genol4.py).
-/
import Derived.Test.YtmfbabmejbppjaaOl3
set_option linter.unusedVariables false
set_option linter.unusedSimpArgs false
namespace Go.Proofs.Ytmfbabmejbppjaa
open Go.RowKit

theorem IsRecs.oneS {D : Type} {k : Nat} {R : Nat → World → List Value → D → Prop} {L B : Nat} {d0 : D} {w : World} {b off n cap i : Nat} {xs : List D} (h : IsRecs k R L d0 B w (.slice (some ⟨b, off, none⟩) n cap) xs) (hi : i < xs.length) :
    IsRecs k R L d0 B w (.slice (some ⟨b, off + i * k, none⟩) 1 (cap - i)) [xs.getD i d0] := by
  obtain ⟨b', off', cap', ⟨a, e, h1, h2, h3⟩, h4, h5⟩ := h
  cases e
  rcases h3 with h3 | h3
  rotate_left
  · omega
  cases h3
  refine ⟨b, off + i * k, cap - i, ⟨_, rfl, by simp; omega, by omega, Or.inl rfl⟩, by simp; omega, fun j hj => ?_⟩
  obtain rfl : j = 0 := by simpa using hj
  obtain ⟨c, c1, c2⟩ := h5 i hi
  exact ⟨c, fun q u hq => by have := c1 q u hq; rwa [Nat.zero_mul, Nat.add_zero], c2⟩
def allTo (n : NamesD) (l : List WishD) (k : Nat) : Bool := (l.take k).all (fun x => decide (resE n [x] = 0))
def catTo (n : NamesD) (l : List WishD) (k : Nat) : List OrderD := (l.take k).flatMap (fun x => resL n [x])
theorem take_wish {l : List WishD} {k : Nat} (h : k < l.length) : l.take (k + 1) = l.take k ++ [wishAt l k] := by rw [List.take_succ_eq_append_getElem h, wishAt_get h]
theorem allTo_succ {n : NamesD} {l : List WishD} {k : Nat} (h : k < l.length) : allTo n l (k + 1) = (allTo n l k && decide (resE n [wishAt l k] = 0)) := by
  unfold allTo; rw [take_wish h, List.all_append]; simp
theorem catTo_succ {n : NamesD} {l : List WishD} {k : Nat} (h : k < l.length) : catTo n l (k + 1) = catTo n l k ++ resL n [wishAt l k] := by
  unfold catTo; rw [take_wish h, List.flatMap_append]; simp
theorem resL_one (n : NamesD) (x : WishD) : (resL n [x]).length ≤ 1 := by
  unfold resL ordersOf
  split <;> simp
theorem catTo_len (n : NamesD) (l : List WishD) : ∀ k, k ≤ l.length → (catTo n l k).length ≤ k
  | 0, _ => by simp [catTo]
  | k + 1, h => by
    rw [catTo_succ (by omega), List.length_append]
    have := catTo_len n l k (by omega)
    have := resL_one n (wishAt l k)
    omega
theorem resE_single {n : NamesD} {x : WishD} (hc : checkN n = 0) : resE n [x] = 0 ↔ knownB n x = true ∧ rightN n (orderOf n x) = true := by
  constructor
  · intro h
    obtain ⟨_, _, _, h4, h5⟩ := resE_zero h
    exact ⟨by simpa using h4, by simpa [ordersOf] using h5⟩
  · rintro ⟨h1, h2⟩
    exact resE_ok hc (by simp) (by simp [namesDiff]) (by simpa using h1) (by simpa [ordersOf] using h2)
theorem resE_dup {n : NamesD} {l : List WishD} (h : namesDiff l = false) : resE n l ≠ 0 := fun h0 => by
  have := (resE_zero h0).2.2.1
  rw [h] at this
  cases this
theorem each_all {n : NamesD} {l : List WishD} (hc : checkN n = 0) (hl : ¬ 64 < l.length) (hd : namesDiff l = true) : (resE n l = 0 ↔ allTo n l l.length = true) ∧ (allTo n l l.length = true → catTo n l l.length = resL n l) := by
  have h1 : resE n l = 0 ↔ allTo n l l.length = true := by
    unfold allTo
    rw [List.take_length, List.all_eq_true]
    constructor
    · intro h x hx
      obtain ⟨_, _, _, h4, h5⟩ := resE_zero h
      have a1 := List.all_eq_true.1 h4 x hx
      have a2 := List.all_eq_true.1 h5 (orderOf n x) (List.mem_map_of_mem hx)
      simpa using (resE_single hc).2 ⟨a1, a2⟩
    · intro h
      refine resE_ok hc hl hd (List.all_eq_true.2 fun x hx => ?_) (List.all_eq_true.2 fun o ho => ?_)
      · have := h x hx
        simp only [decide_eq_true_eq] at this
        exact ((resE_single hc).1 this).1
      · obtain ⟨x, hx, rfl⟩ := List.mem_map.1 ho
        have := h x hx
        simp only [decide_eq_true_eq] at this
        exact ((resE_single hc).1 this).2
  refine ⟨h1, fun h => ?_⟩
  have h0 := h1.2 h
  unfold allTo at h
  rw [List.take_length, List.all_eq_true] at h
  unfold catTo resL
  rw [List.take_length, if_pos h0]
  unfold ordersOf
  have : ∀ m : List WishD, (∀ x ∈ m, resE n [x] = 0) → m.flatMap (fun x => if resE n [x] = 0 then List.map (orderOf n) [x] else []) = m.map (orderOf n) := by
    intro m hm
    induction m with
    | nil => rfl
    | cons a r ih =>
      rw [List.flatMap_cons, ih (fun x hx => hm x (by simp [hx])), if_pos (hm a (by simp))]
      simp
  exact this l (fun x hx => by have := h x hx; simpa using this)

set_option maxHeartbeats 16000000 in
set_option maxRecDepth 100000 in
theorem ordersEach_any (B : Nat) (w : World) (v : NamesV) (n : NamesD) (vl : Value) (l : List WishD) (hB : B ≤ w.heap.size) (hv : IsNames B w v n) (hl : IsWishes B w vl l) :
    Calls Try.prog 6 #[v.agg, vl] w fun e w' => e = .returned (.bool true) ∧ Below w.heap.size w w' := by
  obtain ⟨vo, vp, vc, vh⟩ := v
  obtain ⟨ao, co, e, ho1, ho2, ho3⟩ := hv.o.form
  simp only at e; subst e
  obtain ⟨ap, cp, e, hp1, hp2, hp3⟩ := hv.p.form
  simp only at e; subst e
  obtain ⟨ac, cc, e, hc1, hc2, hc3⟩ := hv.c.form
  simp only at e; subst e
  obtain ⟨bh, oh, ch, ⟨ah, e, hh1, hh2, hh4⟩, hh3, hh5, hh6⟩ := id hv.h
  simp only at e; subst e
  obtain ⟨aw, cw, e, hw1, hw2, hw3⟩ := hl.form
  subst e
  have HV := Lib.hid hv
  have HL := Lib.hid hl
  obtain ⟨b0, hb0⟩ : ∃ b, w.heap.size = b := ⟨_, rfl⟩
  obtain ⟨W0, hW0⟩ : ∃ W, w.alloc (.cells #[.slice ao n.offices.length co, .slice ap n.people.length cp, .slice ac n.classes.length cc, .slice ah n.homes.length ch] 25) = W := ⟨_, rfl⟩
  have HB0 : Hid (Below w.heap.size w W0) := Lib.hid (by rw [← hW0]; exact box_below' w _)
  have HX0 : Hid (Box W0 b0 #[.slice ao n.offices.length co, .slice ap n.people.length cp, .slice ac n.classes.length cc, .slice ah n.homes.length ch]) := Lib.hid (by rw [← hW0, ← hb0]; exact Box.new _ _ _)
  have HW0 := Lib.hid hW0
  have HBZ := Lib.hid hb0
  clear hv hl hh5 hh6 hh4 hW0
  unfold NamesV.agg
  go_enter Try.func6, Try.ntmps6
  go_upto_region 1 with fail
  rw [HW0.out]
  try rw [hb0]
  clear hb0
  go_wp2_with fail
  refine (sane18_any W0).mono ?_
  rintro e W1 ⟨rfl, hb⟩
  have HB1 : Hid (Below w.heap.size w W1) := Lib.hid (HB0.out.trans (hb.mono HB0.out.size))
  have HX1 := Lib.hid (HX0.out.ext hb)
  clear hb
  have HNK : Hid (∀ W, Below W1.heap.size W1 W → W.cell? ⟨b0, 0, none⟩ = some (.slice ao n.offices.length co) ∧ W.cell? ⟨b0, 1, none⟩ = some (.slice ap n.people.length cp) ∧ W.cell? ⟨b0, 2, none⟩ = some (.slice ac n.classes.length cc) ∧ W.cell? ⟨b0, 3, none⟩ = some (.slice ah n.homes.length ch)) := Lib.hid fun W hW => by
    have hx := (HX1.out.ext hW).2
    exact ⟨hx 0, hx 1, hx 2, hx 3⟩
  have HVK : Hid (∀ W, Below W1.heap.size W1 W → IsNames W.heap.size W ⟨.slice ao n.offices.length co, .slice ap n.people.length cp, .slice ac n.classes.length cc, .slice ah n.homes.length ch⟩ n) := Lib.hid fun W hW => (HV.out.below (HB1.out.trans (hW.mono HB1.out.size)) hB).mono (by have := HB1.out.size; have := hW.size; omega)
  have HLK : Hid (∀ W, Below W1.heap.size W1 W → IsWishes W.heap.size W (.slice aw l.length cw) l) := Lib.hid fun W hW => (IsRecs.below wishK HL.out (HB1.out.trans (hW.mono HB1.out.size)) hB).mono wishK (by have := HB1.out.size; have := hW.size; omega)
  obtain ⟨x0, x1, x2, x3⟩ := HNK.out W1 (Below.refl _ _)
  go_wp2_with fail
  refine (fewnames_any W1.heap.size W1 ⟨_, _, _, _⟩ n (HVK.out W1 (Below.refl _ _))).mono ?_
  rintro e W2 ⟨rfl, hb⟩
  have HB12 : Hid (Below W1.heap.size W1 W2) := Lib.hid hb
  clear hb x0 x1 x2 x3
  cases hfn : fewN n with
  | false =>
    have HFN := Lib.hid hfn
    clear hfn
    go_wp2
    go_ret
    exact ⟨rfl, HB1.out.trans (HB12.out.mono HB1.out.size)⟩
  | true =>
    have HFN := Lib.hid hfn
    clear hfn
    go_wp2_with fail
    refine (few_any W2.heap.size W2 _ l (HLK.out W2 HB12.out)).mono ?_
    rintro e w3 ⟨rfl, hw⟩
    rw [hw]
    clear hw
    cases hfl : fewL l with
    | false =>
      clear hfl
      go_wp2
      go_ret
      exact ⟨rfl, HB1.out.trans (HB12.out.mono HB1.out.size)⟩
    | true =>
      obtain ⟨hl70, hag0⟩ := fewL_of hfl
      have HAG : Hid (∀ k, k < l.length → (wishAt l k).against.length ≤ 1000000) := Lib.hid fun k hk => by have := hag0 k hk; omega
      have HAG40 := Lib.hid hag0
      have HSN : Hid (SmallN n) := Lib.hid (fewN_small HFN.out)
      have HL70 := Lib.hid hl70
      clear hfl hag0 hl70
      by_cases hl64 : 64 < l.length
      · have hl' : (64 : Int) < (l.length : Int) := by omega
        obtain ⟨x0, x1, x2, x3⟩ := HNK.out W2 HB12.out
        go_wp2
        go_ret
        exact ⟨rfl, HB1.out.trans (HB12.out.mono HB1.out.size)⟩
      have hl' : (l.length : Int) ≤ 64 := by omega
      have hl64N : l.length ≤ 64 := by omega
      have HL64 := Lib.hid hl64
      obtain ⟨E, hE⟩ : ∃ E, resE n l = E := ⟨_, rfl⟩
      have HE := Lib.hid hE
      obtain ⟨os, hos⟩ : ∃ os, resL n l = os := ⟨_, rfl⟩
      have HOS := Lib.hid hos
      obtain ⟨x0, x1, x2, x3⟩ := HNK.out W2 HB12.out
      have HR1 := Lib.hid (res_law W1 W2 _ n _ l E os HB12.out (HVK.out W2 HB12.out) HSN.out (HLK.out W2 HB12.out) HAG.out hE hos)
      clear hE hos hl64
      go_wp2_with fail
      refine HR1.out.mono ?_
      rintro e w5 ⟨ax, cx, rfl, ho, hb⟩
      have HB5 : Hid (Below W1.heap.size W1 w5) := Lib.hid hb
      have HO5 := Lib.hid ho
      have HBW5 : Hid (Below w.heap.size w w5) := Lib.hid (HB1.out.trans (hb.mono HB1.out.size))
      clear hb ho x0 x1 x2 x3 hl'
      go_wp2
      go_loopw [7, 8, 37] (fun yv av iv wr => ∃ k, k ≤ l.length ∧ iv = .int .i64 k ∧ OwnOrds w5.heap.size wr yv (catTo n l k) ∧ av = .bool (allTo n l k) ∧ Below w5.heap.size w5 wr ∧ diffTo l k) (fun _ _ iv _ => l.length - (intOf iv).toNat)
      case atStart => exact ⟨0, by omega, rfl, OwnDeep.nil, rfl, Below.refl _ _, fun a ha => by omega⟩
      case round =>
        obtain ⟨k, hk, rfl, hy, rfl, hbr, hdf⟩ := hrel
        obtain ⟨ay, ny, cy, rfl⟩ := hy.form'
        have HY := Lib.hid hy
        have HDF := Lib.hid hdf
        have HBR := Lib.hid hbr
        have HB1R : Hid (Below W1.heap.size W1 wr) := Lib.hid (HB5.out.trans (hbr.mono HB5.out.size))
        have HBWR : Hid (Below w.heap.size w wr) := Lib.hid (HBW5.out.trans (hbr.mono HBW5.out.size))
        have hszr := hbr.size
        clear hy hbr hdf
        obtain ⟨wA, rfl⟩ : ∃ W, W = wr := ⟨_, rfl⟩
        by_cases hlt : k < l.length
        rotate_left
        · obtain rfl : k = l.length := by omega
          have hnd := namesDiff_of HDF.out
          obtain ⟨C, hC⟩ : ∃ C, checkN n = C := ⟨_, rfl⟩
          have HC := Lib.hid hC
          obtain ⟨x0, x1, x2, x3⟩ := HNK.out wA HB1R.out
          by_cases hc0 : C = 0
          rotate_left
          · have HEC : Hid (E = C) := Lib.hid (by rw [← HE.out, resE_check (by rw [hC]; exact hc0), hC])
            have hcb : (C != 0) = true := by simpa using hc0
            clear hc0 hC hnd
            go_wp2_with fail
            refine (check_any wA.heap.size wA ⟨_, _, _, _⟩ n (Nat.le_refl _) (HVK.out _ HB1R.out) HSN.out).mono ?_
            rintro e w7 ⟨rfl, hb⟩
            rw [HC.out]
            have HB7 : Hid (Below W1.heap.size W1 w7) := Lib.hid (HB1R.out.trans (hb.mono HB1R.out.size))
            clear hb x0 x1 x2 x3
            obtain ⟨x0, x1, x2, x3⟩ := HNK.out w7 HB7.out
            go_wp2_with fail
            refine (check_any w7.heap.size w7 ⟨_, _, _, _⟩ n (Nat.le_refl _) (HVK.out _ HB7.out) HSN.out).mono ?_
            rintro e w8 ⟨rfl, hb⟩
            rw [HC.out]
            have HB8 : Hid (Below w.heap.size w w8) := Lib.hid ((HB1.out.trans (HB7.out.mono HB1.out.size)).trans (hb.mono (by have := HB1.out.size; have := HB7.out.size; omega)))
            clear hb x0 x1 x2 x3
            go_wp2
            go_ret
            exact ⟨ret_bool' (by rw [HEC.out]; simp), HB8.out⟩
          · subst hc0
            obtain ⟨hall, hcat⟩ := each_all hC HL64.out hnd
            rw [HE.out] at hall
            have HALL := Lib.hid hall
            have HCAT := Lib.hid hcat
            obtain ⟨A, hA⟩ : ∃ A, allTo n l l.length = A := ⟨_, rfl⟩
            rw [hA] at HALL HCAT
            clear hall hcat hnd hC
            go_wp2_with fail
            refine (check_any wA.heap.size wA ⟨_, _, _, _⟩ n (Nat.le_refl _) (HVK.out _ HB1R.out) HSN.out).mono ?_
            rintro e w7 ⟨rfl, hb⟩
            rw [HC.out]
            have HB7 : Hid (Below wA.heap.size wA w7) := Lib.hid hb
            have HBF : Hid (Below w.heap.size w w7) := Lib.hid (HBWR.out.trans (hb.mono HBWR.out.size))
            clear hb x0 x1 x2 x3
            rw [hA]
            clear hA
            cases A with
            | false =>
              have he : (E == 0) = false := by
                have : ¬ E = 0 := fun h => by have := HALL.out.1 h; cases this
                simpa using this
              go_wp2
              go_ret
              exact ⟨rfl, HBF.out⟩
            | true =>
              have he : (E == 0) = true := by
                have : E = 0 := HALL.out.2 rfl
                simpa using this
              have HY7 := Lib.hid (ownOrds_is (HY.out.below orderSK HB7.out))
              have HX7 := Lib.hid ((IsRecs.below orderK HO5.out (HBR.out.trans (HB7.out.mono hszr)) (Nat.le_refl _)).mono orderK (show w5.heap.size ≤ w7.heap.size by have := HB7.out.size; omega))
              rw [HCAT.out rfl, HOS.out] at HY7
              have hls : ny = os.length := by
                obtain ⟨a', c', e⟩ := HY.out.form
                cases e
                rw [HCAT.out rfl, HOS.out]
              subst hls
              go_wp2_with fail
              refine (rsame_any w7.heap.size w7 _ _ os os (Nat.le_refl _) HX7.out HY7.out).mono ?_
              rintro e w8 ⟨rfl, hb⟩
              rw [show sameOs os os = true from by unfold sameOs; simp]
              have HB8 : Hid (Below w.heap.size w w8) := Lib.hid (HBF.out.trans (hb.mono HBF.out.size))
              clear hb
              go_wp2
              go_ret
              exact ⟨rfl, HB8.out⟩
        obtain ⟨b, off, va, rfl, bb, hst, hok, g0, g1, g2, g3, g4, g5, g6, g7, g8, g9, g10⟩ := IsWishes.cell (HLK.out wA HB1R.out) hlt
        have HSL : Hid (∀ W, Below wA.heap.size wA W → IsWishes W.heap.size W (.slice (some ⟨b, off + k * 11, none⟩) 1 (cw - k)) [wishAt l k]) := Lib.hid fun W hW => IsRecs.oneS (HLK.out W (HB1R.out.trans (hW.mono HB1R.out.size))) hlt
        have hag := HAG.out k hlt
        have HAS := Lib.hid (allTo_succ (n := n) hlt)
        have HCS := Lib.hid (catTo_succ (n := n) hlt)
        have hcl := catTo_len n l k hk
        have HDUP : Hid (∀ j, j < k → nameAt l k = nameAt l j → E ≠ 0) := Lib.hid fun j hj he => by rw [← HE.out]; exact resE_dup (namesDiff_not hlt hj he)
        have HNM : Hid (nameAt l k = (wishAt l k).name) := Lib.hid rfl
        obtain ⟨X, hX⟩ : ∃ X, wishAt l k = X := ⟨_, rfl⟩
        rw [hX] at hst hok hag HSL HAS HCS HNM g0 g1 g2 g3 g4 g5 g6 g7 g9 g10
        obtain ⟨aa, ca, rfl, ha1, ha2, ha3⟩ := hst.form
        clear hX hst hok
        obtain ⟨E1, hE1⟩ : ∃ E, resE n [X] = E := ⟨_, rfl⟩
        obtain ⟨os1, hos1⟩ : ∃ o, resL n [X] = o := ⟨_, rfl⟩
        have hl1 := resL_one n X
        rw [hos1] at HCS hl1
        rw [hE1] at HAS
        obtain ⟨W6, hW6⟩ : ∃ W, wA.alloc (.cells #[strV X.name, strV X.frm, strV X.to, strV X.cls, .int .i64 X.after, .int .i64 X.by_, .int .i64 X.crowd, .int .i64 X.pay, .slice aa X.against.length ca, .bool X.back, .int .i64 X.els] 41) = W := ⟨_, rfl⟩
        obtain ⟨z, hz⟩ : ∃ z, wA.heap.size = z := ⟨_, rfl⟩
        have HB6 : Hid (Below wA.heap.size wA W6) := Lib.hid (by rw [← hW6]; exact box_below' _ _)
        have HK6 : Hid (Box W6 z #[strV X.name, strV X.frm, strV X.to, strV X.cls, .int .i64 X.after, .int .i64 X.by_, .int .i64 X.crowd, .int .i64 X.pay, .slice aa X.against.length ca, .bool X.back, .int .i64 X.els]) := Lib.hid (by rw [← hW6, ← hz]; exact Box.new _ _ _)
        have HB16 : Hid (Below W1.heap.size W1 W6) := Lib.hid (HB1R.out.trans (HB6.out.mono HB1R.out.size))
        have HW6 := Lib.hid hW6
        have HZ := Lib.hid hz
        have hsz6 := HB6.out.size
        have HRC : Hid (∀ W, Below W6.heap.size W6 W → Calls Try.prog 12 #[.agg #[.slice ao n.offices.length co, .slice ap n.people.length cp, .slice ac n.classes.length cc, .slice ah n.homes.length ch], .slice (some ⟨b, off + k * 11, none⟩) 1 (cw - k)] W fun e w' => ∃ vr, e = .returned (.tuple #[vr, .int .i64 E1]) ∧ OwnOrds W.heap.size w' vr os1 ∧ Below W.heap.size W w') := Lib.hid fun W hW => by
          refine (resolve_any W.heap.size W ⟨_, _, _, _⟩ n _ [X] (Nat.le_refl _) (HVK.out W (HB16.out.trans (hW.mono HB16.out.size))) HSN.out (HSL.out W (HB6.out.trans (hW.mono hsz6))) (hag1 hag)).mono ?_
          rintro e w' ⟨vr, rfl, ho, hb'⟩
          rw [hos1] at ho
          exact ⟨vr, by rw [hE1], ho, hb'⟩
        clear hW6 hz hE1 hos1 hag
        have hck : ¬ cw = k := by omega
        have hk1 : (k : Int) + 1 ≤ (cw : Int) := by omega
        have hk0 : (0 : Int) ≤ (k : Int) := by omega
        have hk11 : (k : Int) ≤ (k : Int) + 1 := by omega
        go_upto_region 11 with fail
        try rw [HW6.out]
        try rw [HZ.out]
        clear g0 g1 g2 g3 g4 g5 g6 g7 g8 g9 g10
        obtain ⟨V, hV⟩ : ∃ V : List (Option Value), V = [some (.agg #[.slice ao n.offices.length co, .slice ap n.people.length cp, .slice ac n.classes.length cc, .slice ah n.homes.length ch]), some (.slice (some ⟨b, off, none⟩) l.length cw), some (.int .i64 k), some (.int .i64 k), some (.int .i64 ((k : Int) + 1)), some (.slice (some ⟨b, off + k * 11, none⟩) 1 (cw - k)), none, none, none, some (.int .i64 E1), none, some (.int .i64 E1)] := ⟨_, rfl⟩
        have HVV := Lib.hid hV
        clear hV
        refine wp_region_V [some 43, some 44, some 45, some 46, some 47, some 48, some 49, some 42, some 50, some 51, some 11, some 12] (fun L w' xs => ValsAt V L xs ∧ (Below W6.heap.size W6 w' ∧ (L 6 = true → ∃ vr, xs 6 = .tuple #[vr, .int .i64 E1] ∧ OwnOrds W6.heap.size w' vr os1) ∧ (L 7 = true → L 6 = true ∧ xs 7 = xs 6) ∧ (L 8 = true → L 6 = true ∧ ∃ y, xs 6 = .tuple #[xs 8, y]) ∧ (L 10 = true → L 6 = true ∧ ∃ y, xs 6 = .tuple #[xs 10, y]))) (by kernel_rfl) (by kernel_rfl) (by rfl) (by rfl) (by rfl) ?_ ?_ ?_
        focus
          exact fun xs => ⟨ValsAt.none _ _, (Below.refl _ _).drew, (fun h => by cases h), (fun h => by cases h), (fun h => by cases h), (fun h => by cases h)⟩
        focus
          refine ⟨?_, ?_, ?_, ?_, ?_, ?_, ?_, ?_, ?_, ?_, ?_, ?_, trivial⟩
          all_goals
            intro L a' w' xs hi hd hf hJ K hK
            obtain ⟨hv, hb, h6, h7, h8, h10⟩ := hJ
            have HF := Lib.hid hf
            have HVA := Lib.hid hv
            have HLI := Lib.hid hi
            clear hf hv hi
          focus
            clear hd
            obtain ⟨ρ, hρ⟩ : ∃ ρ, a'.eval = ρ := ⟨_, rfl⟩
            have hcst : ∀ v, ρ (.const v) = v := fun v => (congrFun hρ (.const v)).symm
            have l2 : ρ (.tmp 2) = .pointer (some ⟨b0, 0, none⟩) := (congrFun hρ (.tmp 2)).symm.trans (HF.out.lo 2 rfl)
            rw [if_pos (by simp [Region.wanted])]
            unfold Oper.wp
            rw [hρ]
            clear hρ
            have H6 := Lib.hid h6
            have H7 := Lib.hid h7
            have H8 := Lib.hid h8
            have H10 := Lib.hid h10
            clear h6 h7 h8 h10
            obtain ⟨x0, x1, x2, x3⟩ := HNK.out _ (HB16.out.trans (hb.mono HB16.out.size))
            go_simp
            exact hK.out _ _ ⟨HVA.out.set (i := 0) (by rw [HVV.out]; rfl), hb, (by simp only [upd_ne (L := L) (show (6 : Nat) ≠ 0 by decide), upd_ne (L := L) (show (7 : Nat) ≠ 0 by decide), upd_ne (L := L) (show (8 : Nat) ≠ 0 by decide), upd_ne (L := L) (show (10 : Nat) ≠ 0 by decide), updV_ne (xs := xs) (show (6 : Nat) ≠ 0 by decide), updV_ne (xs := xs) (show (7 : Nat) ≠ 0 by decide), updV_ne (xs := xs) (show (8 : Nat) ≠ 0 by decide), updV_ne (xs := xs) (show (10 : Nat) ≠ 0 by decide)]; exact H6.out), (by simp only [upd_ne (L := L) (show (6 : Nat) ≠ 0 by decide), upd_ne (L := L) (show (7 : Nat) ≠ 0 by decide), upd_ne (L := L) (show (8 : Nat) ≠ 0 by decide), upd_ne (L := L) (show (10 : Nat) ≠ 0 by decide), updV_ne (xs := xs) (show (6 : Nat) ≠ 0 by decide), updV_ne (xs := xs) (show (7 : Nat) ≠ 0 by decide), updV_ne (xs := xs) (show (8 : Nat) ≠ 0 by decide), updV_ne (xs := xs) (show (10 : Nat) ≠ 0 by decide)]; exact H7.out), (by simp only [upd_ne (L := L) (show (6 : Nat) ≠ 0 by decide), upd_ne (L := L) (show (7 : Nat) ≠ 0 by decide), upd_ne (L := L) (show (8 : Nat) ≠ 0 by decide), upd_ne (L := L) (show (10 : Nat) ≠ 0 by decide), updV_ne (xs := xs) (show (6 : Nat) ≠ 0 by decide), updV_ne (xs := xs) (show (7 : Nat) ≠ 0 by decide), updV_ne (xs := xs) (show (8 : Nat) ≠ 0 by decide), updV_ne (xs := xs) (show (10 : Nat) ≠ 0 by decide)]; exact H8.out), (by simp only [upd_ne (L := L) (show (6 : Nat) ≠ 0 by decide), upd_ne (L := L) (show (7 : Nat) ≠ 0 by decide), upd_ne (L := L) (show (8 : Nat) ≠ 0 by decide), upd_ne (L := L) (show (10 : Nat) ≠ 0 by decide), updV_ne (xs := xs) (show (6 : Nat) ≠ 0 by decide), updV_ne (xs := xs) (show (7 : Nat) ≠ 0 by decide), updV_ne (xs := xs) (show (8 : Nat) ≠ 0 by decide), updV_ne (xs := xs) (show (10 : Nat) ≠ 0 by decide)]; exact H10.out)⟩
          focus
            clear hd
            obtain ⟨ρ, hρ⟩ : ∃ ρ, a'.eval = ρ := ⟨_, rfl⟩
            have hcst : ∀ v, ρ (.const v) = v := fun v => (congrFun hρ (.const v)).symm
            have l1 : ρ (.tmp 1) = .slice (some ⟨b, off, none⟩) l.length cw := (congrFun hρ (.tmp 1)).symm.trans (HF.out.lo 1 rfl)
            rw [if_pos (by simp [Region.wanted])]
            unfold Oper.wp
            rw [hρ]
            clear hρ
            have H6 := Lib.hid h6
            have H7 := Lib.hid h7
            have H8 := Lib.hid h8
            have H10 := Lib.hid h10
            clear h6 h7 h8 h10
            go_simp
            exact hK.out _ _ ⟨HVA.out.set (i := 1) (by rw [HVV.out]; rfl), hb, (by simp only [upd_ne (L := L) (show (6 : Nat) ≠ 1 by decide), upd_ne (L := L) (show (7 : Nat) ≠ 1 by decide), upd_ne (L := L) (show (8 : Nat) ≠ 1 by decide), upd_ne (L := L) (show (10 : Nat) ≠ 1 by decide), updV_ne (xs := xs) (show (6 : Nat) ≠ 1 by decide), updV_ne (xs := xs) (show (7 : Nat) ≠ 1 by decide), updV_ne (xs := xs) (show (8 : Nat) ≠ 1 by decide), updV_ne (xs := xs) (show (10 : Nat) ≠ 1 by decide)]; exact H6.out), (by simp only [upd_ne (L := L) (show (6 : Nat) ≠ 1 by decide), upd_ne (L := L) (show (7 : Nat) ≠ 1 by decide), upd_ne (L := L) (show (8 : Nat) ≠ 1 by decide), upd_ne (L := L) (show (10 : Nat) ≠ 1 by decide), updV_ne (xs := xs) (show (6 : Nat) ≠ 1 by decide), updV_ne (xs := xs) (show (7 : Nat) ≠ 1 by decide), updV_ne (xs := xs) (show (8 : Nat) ≠ 1 by decide), updV_ne (xs := xs) (show (10 : Nat) ≠ 1 by decide)]; exact H7.out), (by simp only [upd_ne (L := L) (show (6 : Nat) ≠ 1 by decide), upd_ne (L := L) (show (7 : Nat) ≠ 1 by decide), upd_ne (L := L) (show (8 : Nat) ≠ 1 by decide), upd_ne (L := L) (show (10 : Nat) ≠ 1 by decide), updV_ne (xs := xs) (show (6 : Nat) ≠ 1 by decide), updV_ne (xs := xs) (show (7 : Nat) ≠ 1 by decide), updV_ne (xs := xs) (show (8 : Nat) ≠ 1 by decide), updV_ne (xs := xs) (show (10 : Nat) ≠ 1 by decide)]; exact H8.out), (by simp only [upd_ne (L := L) (show (6 : Nat) ≠ 1 by decide), upd_ne (L := L) (show (7 : Nat) ≠ 1 by decide), upd_ne (L := L) (show (8 : Nat) ≠ 1 by decide), upd_ne (L := L) (show (10 : Nat) ≠ 1 by decide), updV_ne (xs := xs) (show (6 : Nat) ≠ 1 by decide), updV_ne (xs := xs) (show (7 : Nat) ≠ 1 by decide), updV_ne (xs := xs) (show (8 : Nat) ≠ 1 by decide), updV_ne (xs := xs) (show (10 : Nat) ≠ 1 by decide)]; exact H10.out)⟩
          focus
            clear hd
            obtain ⟨ρ, hρ⟩ : ∃ ρ, a'.eval = ρ := ⟨_, rfl⟩
            have hcst : ∀ v, ρ (.const v) = v := fun v => (congrFun hρ (.const v)).symm
            have l9 : ρ (.tmp 9) = .int .i64 k := (congrFun hρ (.tmp 9)).symm.trans (HF.out.lo 9 rfl)
            rw [if_pos (by simp [Region.wanted])]
            unfold Oper.wp
            rw [hρ]
            clear hρ
            have H6 := Lib.hid h6
            have H7 := Lib.hid h7
            have H8 := Lib.hid h8
            have H10 := Lib.hid h10
            clear h6 h7 h8 h10
            go_simp
            exact hK.out _ _ ⟨HVA.out.set (i := 2) (by rw [HVV.out]; rfl), hb, (by simp only [upd_ne (L := L) (show (6 : Nat) ≠ 2 by decide), upd_ne (L := L) (show (7 : Nat) ≠ 2 by decide), upd_ne (L := L) (show (8 : Nat) ≠ 2 by decide), upd_ne (L := L) (show (10 : Nat) ≠ 2 by decide), updV_ne (xs := xs) (show (6 : Nat) ≠ 2 by decide), updV_ne (xs := xs) (show (7 : Nat) ≠ 2 by decide), updV_ne (xs := xs) (show (8 : Nat) ≠ 2 by decide), updV_ne (xs := xs) (show (10 : Nat) ≠ 2 by decide)]; exact H6.out), (by simp only [upd_ne (L := L) (show (6 : Nat) ≠ 2 by decide), upd_ne (L := L) (show (7 : Nat) ≠ 2 by decide), upd_ne (L := L) (show (8 : Nat) ≠ 2 by decide), upd_ne (L := L) (show (10 : Nat) ≠ 2 by decide), updV_ne (xs := xs) (show (6 : Nat) ≠ 2 by decide), updV_ne (xs := xs) (show (7 : Nat) ≠ 2 by decide), updV_ne (xs := xs) (show (8 : Nat) ≠ 2 by decide), updV_ne (xs := xs) (show (10 : Nat) ≠ 2 by decide)]; exact H7.out), (by simp only [upd_ne (L := L) (show (6 : Nat) ≠ 2 by decide), upd_ne (L := L) (show (7 : Nat) ≠ 2 by decide), upd_ne (L := L) (show (8 : Nat) ≠ 2 by decide), upd_ne (L := L) (show (10 : Nat) ≠ 2 by decide), updV_ne (xs := xs) (show (6 : Nat) ≠ 2 by decide), updV_ne (xs := xs) (show (7 : Nat) ≠ 2 by decide), updV_ne (xs := xs) (show (8 : Nat) ≠ 2 by decide), updV_ne (xs := xs) (show (10 : Nat) ≠ 2 by decide)]; exact H8.out), (by simp only [upd_ne (L := L) (show (6 : Nat) ≠ 2 by decide), upd_ne (L := L) (show (7 : Nat) ≠ 2 by decide), upd_ne (L := L) (show (8 : Nat) ≠ 2 by decide), upd_ne (L := L) (show (10 : Nat) ≠ 2 by decide), updV_ne (xs := xs) (show (6 : Nat) ≠ 2 by decide), updV_ne (xs := xs) (show (7 : Nat) ≠ 2 by decide), updV_ne (xs := xs) (show (8 : Nat) ≠ 2 by decide), updV_ne (xs := xs) (show (10 : Nat) ≠ 2 by decide)]; exact H10.out)⟩
          focus
            clear hd
            obtain ⟨ρ, hρ⟩ : ∃ ρ, a'.eval = ρ := ⟨_, rfl⟩
            have hcst : ∀ v, ρ (.const v) = v := fun v => (congrFun hρ (.const v)).symm
            have l9 : ρ (.tmp 9) = .int .i64 k := (congrFun hρ (.tmp 9)).symm.trans (HF.out.lo 9 rfl)
            rw [if_pos (by simp [Region.wanted])]
            unfold Oper.wp
            rw [hρ]
            clear hρ
            have H6 := Lib.hid h6
            have H7 := Lib.hid h7
            have H8 := Lib.hid h8
            have H10 := Lib.hid h10
            clear h6 h7 h8 h10
            go_simp
            exact hK.out _ _ ⟨HVA.out.set (i := 3) (by rw [HVV.out]; rfl), hb, (by simp only [upd_ne (L := L) (show (6 : Nat) ≠ 3 by decide), upd_ne (L := L) (show (7 : Nat) ≠ 3 by decide), upd_ne (L := L) (show (8 : Nat) ≠ 3 by decide), upd_ne (L := L) (show (10 : Nat) ≠ 3 by decide), updV_ne (xs := xs) (show (6 : Nat) ≠ 3 by decide), updV_ne (xs := xs) (show (7 : Nat) ≠ 3 by decide), updV_ne (xs := xs) (show (8 : Nat) ≠ 3 by decide), updV_ne (xs := xs) (show (10 : Nat) ≠ 3 by decide)]; exact H6.out), (by simp only [upd_ne (L := L) (show (6 : Nat) ≠ 3 by decide), upd_ne (L := L) (show (7 : Nat) ≠ 3 by decide), upd_ne (L := L) (show (8 : Nat) ≠ 3 by decide), upd_ne (L := L) (show (10 : Nat) ≠ 3 by decide), updV_ne (xs := xs) (show (6 : Nat) ≠ 3 by decide), updV_ne (xs := xs) (show (7 : Nat) ≠ 3 by decide), updV_ne (xs := xs) (show (8 : Nat) ≠ 3 by decide), updV_ne (xs := xs) (show (10 : Nat) ≠ 3 by decide)]; exact H7.out), (by simp only [upd_ne (L := L) (show (6 : Nat) ≠ 3 by decide), upd_ne (L := L) (show (7 : Nat) ≠ 3 by decide), upd_ne (L := L) (show (8 : Nat) ≠ 3 by decide), upd_ne (L := L) (show (10 : Nat) ≠ 3 by decide), updV_ne (xs := xs) (show (6 : Nat) ≠ 3 by decide), updV_ne (xs := xs) (show (7 : Nat) ≠ 3 by decide), updV_ne (xs := xs) (show (8 : Nat) ≠ 3 by decide), updV_ne (xs := xs) (show (10 : Nat) ≠ 3 by decide)]; exact H8.out), (by simp only [upd_ne (L := L) (show (6 : Nat) ≠ 3 by decide), upd_ne (L := L) (show (7 : Nat) ≠ 3 by decide), upd_ne (L := L) (show (8 : Nat) ≠ 3 by decide), upd_ne (L := L) (show (10 : Nat) ≠ 3 by decide), updV_ne (xs := xs) (show (6 : Nat) ≠ 3 by decide), updV_ne (xs := xs) (show (7 : Nat) ≠ 3 by decide), updV_ne (xs := xs) (show (8 : Nat) ≠ 3 by decide), updV_ne (xs := xs) (show (10 : Nat) ≠ 3 by decide)]; exact H10.out)⟩
          focus
            obtain ⟨d3, _⟩ := hd
            obtain ⟨ρ, hρ⟩ : ∃ ρ, a'.eval = ρ := ⟨_, rfl⟩
            have hcst : ∀ v, ρ (.const v) = v := fun v => (congrFun hρ (.const v)).symm
            have v3 : ρ (.tmp 46) = .int .i64 k := (congrFun hρ (.tmp 46)).symm.trans ((HF.out.ev 3 rfl d3).trans (HVA.out 3 _ (by rw [HVV.out]; rfl) d3))
            rw [if_pos (by simp [Region.wanted])]
            unfold Oper.wp
            rw [hρ]
            clear hρ
            have H6 := Lib.hid h6
            have H7 := Lib.hid h7
            have H8 := Lib.hid h8
            have H10 := Lib.hid h10
            clear h6 h7 h8 h10
            have hwr : IntKind.i64.wrap ((k : Int) + 1) = (k : Int) + 1 := by rw [IntWalk.i64_in _ (by omega)]
            go_simp
            exact hK.out _ _ ⟨HVA.out.set (i := 4) (by rw [HVV.out]; rfl), hb, (by simp only [upd_ne (L := L) (show (6 : Nat) ≠ 4 by decide), upd_ne (L := L) (show (7 : Nat) ≠ 4 by decide), upd_ne (L := L) (show (8 : Nat) ≠ 4 by decide), upd_ne (L := L) (show (10 : Nat) ≠ 4 by decide), updV_ne (xs := xs) (show (6 : Nat) ≠ 4 by decide), updV_ne (xs := xs) (show (7 : Nat) ≠ 4 by decide), updV_ne (xs := xs) (show (8 : Nat) ≠ 4 by decide), updV_ne (xs := xs) (show (10 : Nat) ≠ 4 by decide)]; exact H6.out), (by simp only [upd_ne (L := L) (show (6 : Nat) ≠ 4 by decide), upd_ne (L := L) (show (7 : Nat) ≠ 4 by decide), upd_ne (L := L) (show (8 : Nat) ≠ 4 by decide), upd_ne (L := L) (show (10 : Nat) ≠ 4 by decide), updV_ne (xs := xs) (show (6 : Nat) ≠ 4 by decide), updV_ne (xs := xs) (show (7 : Nat) ≠ 4 by decide), updV_ne (xs := xs) (show (8 : Nat) ≠ 4 by decide), updV_ne (xs := xs) (show (10 : Nat) ≠ 4 by decide)]; exact H7.out), (by simp only [upd_ne (L := L) (show (6 : Nat) ≠ 4 by decide), upd_ne (L := L) (show (7 : Nat) ≠ 4 by decide), upd_ne (L := L) (show (8 : Nat) ≠ 4 by decide), upd_ne (L := L) (show (10 : Nat) ≠ 4 by decide), updV_ne (xs := xs) (show (6 : Nat) ≠ 4 by decide), updV_ne (xs := xs) (show (7 : Nat) ≠ 4 by decide), updV_ne (xs := xs) (show (8 : Nat) ≠ 4 by decide), updV_ne (xs := xs) (show (10 : Nat) ≠ 4 by decide)]; exact H8.out), (by simp only [upd_ne (L := L) (show (6 : Nat) ≠ 4 by decide), upd_ne (L := L) (show (7 : Nat) ≠ 4 by decide), upd_ne (L := L) (show (8 : Nat) ≠ 4 by decide), upd_ne (L := L) (show (10 : Nat) ≠ 4 by decide), updV_ne (xs := xs) (show (6 : Nat) ≠ 4 by decide), updV_ne (xs := xs) (show (7 : Nat) ≠ 4 by decide), updV_ne (xs := xs) (show (8 : Nat) ≠ 4 by decide), updV_ne (xs := xs) (show (10 : Nat) ≠ 4 by decide)]; exact H10.out)⟩
          focus
            obtain ⟨d1, d2, d4, _⟩ := hd
            obtain ⟨ρ, hρ⟩ : ∃ ρ, a'.eval = ρ := ⟨_, rfl⟩
            have hcst : ∀ v, ρ (.const v) = v := fun v => (congrFun hρ (.const v)).symm
            have v1 : ρ (.tmp 44) = .slice (some ⟨b, off, none⟩) l.length cw := (congrFun hρ (.tmp 44)).symm.trans ((HF.out.ev 1 rfl d1).trans (HVA.out 1 _ (by rw [HVV.out]; rfl) d1))
            have v2 : ρ (.tmp 45) = .int .i64 k := (congrFun hρ (.tmp 45)).symm.trans ((HF.out.ev 2 rfl d2).trans (HVA.out 2 _ (by rw [HVV.out]; rfl) d2))
            have v4 : ρ (.tmp 47) = .int .i64 ((k : Int) + 1) := (congrFun hρ (.tmp 47)).symm.trans ((HF.out.ev 4 rfl d4).trans (HVA.out 4 _ (by rw [HVV.out]; rfl) d4))
            rw [if_pos (by simp [Region.wanted])]
            unfold Oper.wp
            rw [hρ]
            clear hρ
            have H6 := Lib.hid h6
            have H7 := Lib.hid h7
            have H8 := Lib.hid h8
            have H10 := Lib.hid h10
            clear h6 h7 h8 h10
            go_simp
            exact hK.out _ _ ⟨HVA.out.set (i := 5) (by rw [HVV.out]; rfl), hb, (by simp only [upd_ne (L := L) (show (6 : Nat) ≠ 5 by decide), upd_ne (L := L) (show (7 : Nat) ≠ 5 by decide), upd_ne (L := L) (show (8 : Nat) ≠ 5 by decide), upd_ne (L := L) (show (10 : Nat) ≠ 5 by decide), updV_ne (xs := xs) (show (6 : Nat) ≠ 5 by decide), updV_ne (xs := xs) (show (7 : Nat) ≠ 5 by decide), updV_ne (xs := xs) (show (8 : Nat) ≠ 5 by decide), updV_ne (xs := xs) (show (10 : Nat) ≠ 5 by decide)]; exact H6.out), (by simp only [upd_ne (L := L) (show (6 : Nat) ≠ 5 by decide), upd_ne (L := L) (show (7 : Nat) ≠ 5 by decide), upd_ne (L := L) (show (8 : Nat) ≠ 5 by decide), upd_ne (L := L) (show (10 : Nat) ≠ 5 by decide), updV_ne (xs := xs) (show (6 : Nat) ≠ 5 by decide), updV_ne (xs := xs) (show (7 : Nat) ≠ 5 by decide), updV_ne (xs := xs) (show (8 : Nat) ≠ 5 by decide), updV_ne (xs := xs) (show (10 : Nat) ≠ 5 by decide)]; exact H7.out), (by simp only [upd_ne (L := L) (show (6 : Nat) ≠ 5 by decide), upd_ne (L := L) (show (7 : Nat) ≠ 5 by decide), upd_ne (L := L) (show (8 : Nat) ≠ 5 by decide), upd_ne (L := L) (show (10 : Nat) ≠ 5 by decide), updV_ne (xs := xs) (show (6 : Nat) ≠ 5 by decide), updV_ne (xs := xs) (show (7 : Nat) ≠ 5 by decide), updV_ne (xs := xs) (show (8 : Nat) ≠ 5 by decide), updV_ne (xs := xs) (show (10 : Nat) ≠ 5 by decide)]; exact H8.out), (by simp only [upd_ne (L := L) (show (6 : Nat) ≠ 5 by decide), upd_ne (L := L) (show (7 : Nat) ≠ 5 by decide), upd_ne (L := L) (show (8 : Nat) ≠ 5 by decide), upd_ne (L := L) (show (10 : Nat) ≠ 5 by decide), updV_ne (xs := xs) (show (6 : Nat) ≠ 5 by decide), updV_ne (xs := xs) (show (7 : Nat) ≠ 5 by decide), updV_ne (xs := xs) (show (8 : Nat) ≠ 5 by decide), updV_ne (xs := xs) (show (10 : Nat) ≠ 5 by decide)]; exact H10.out)⟩
          focus
            obtain ⟨d0, d5, _⟩ := hd
            obtain ⟨ρ, hρ⟩ : ∃ ρ, a'.eval = ρ := ⟨_, rfl⟩
            have hcst : ∀ v, ρ (.const v) = v := fun v => (congrFun hρ (.const v)).symm
            have hfun : ∀ k, ρ (.func k) = .func (.func k) #[] #[] := fun k => (congrFun hρ (.func k)).symm
            have v0 : ρ (.tmp 43) = .agg #[.slice ao n.offices.length co, .slice ap n.people.length cp, .slice ac n.classes.length cc, .slice ah n.homes.length ch] := (congrFun hρ (.tmp 43)).symm.trans ((HF.out.ev 0 rfl d0).trans (HVA.out 0 _ (by rw [HVV.out]; rfl) d0))
            have v5 : ρ (.tmp 48) = .slice (some ⟨b, off + k * 11, none⟩) 1 (cw - k) := (congrFun hρ (.tmp 48)).symm.trans ((HF.out.ev 5 rfl d5).trans (HVA.out 5 _ (by rw [HVV.out]; rfl) d5))
            rw [if_pos (by simp [Region.wanted])]
            unfold Oper.wp
            rw [hρ]
            clear hρ
            have H6 := Lib.hid h6
            have H7 := Lib.hid h7
            have H8 := Lib.hid h8
            have H10 := Lib.hid h10
            clear h6 h7 h8 h10
            go_simp
            go_at_call 12
            refine (HRC.out _ hb).mono ?_
            rintro e w5' ⟨vr, rfl, ho5, hb5⟩
            have HO6 := Lib.hid ho5
            have HB56 := Lib.hid hb5
            clear ho5 hb5
            exact hK.out _ _ ⟨HVA.out.free (i := 6) (by rw [HVV.out]; rfl) _, hb.trans (HB56.out.mono hb.size), fun _ => ⟨vr, updV_self _ _ _, HO6.out.mono hb.size⟩, (fun h => by simp only [upd_ne (L := L) (show (7 : Nat) ≠ 6 by decide)] at h; have := (H7.out h).1; rw [HLI.out] at this; cases this), (fun h => by simp only [upd_ne (L := L) (show (8 : Nat) ≠ 6 by decide)] at h; have := (H8.out h).1; rw [HLI.out] at this; cases this), (fun h => by simp only [upd_ne (L := L) (show (10 : Nat) ≠ 6 by decide)] at h; have := (H10.out h).1; rw [HLI.out] at this; cases this)⟩
          focus
            obtain ⟨d6, _⟩ := hd
            obtain ⟨ρ, hρ⟩ : ∃ ρ, a'.eval = ρ := ⟨_, rfl⟩
            have hcst : ∀ v, ρ (.const v) = v := fun v => (congrFun hρ (.const v)).symm
            have v6 : ρ (.tmp 49) = xs 6 := (congrFun hρ (.tmp 49)).symm.trans (HF.out.ev 6 rfl d6)
            rw [if_pos (by simp [Region.wanted])]
            unfold Oper.wp
            rw [hρ]
            clear hρ
            have H6 := Lib.hid h6
            have H7 := Lib.hid h7
            have H8 := Lib.hid h8
            have H10 := Lib.hid h10
            clear h6 h7 h8 h10
            go_simp
            exact hK.out _ _ ⟨HVA.out.free (i := 7) (by rw [HVV.out]; rfl) _, hb, (by simp only [upd_ne (L := L) (show (6 : Nat) ≠ 7 by decide), upd_ne (L := L) (show (8 : Nat) ≠ 7 by decide), upd_ne (L := L) (show (10 : Nat) ≠ 7 by decide), updV_ne (xs := xs) (show (6 : Nat) ≠ 7 by decide), updV_ne (xs := xs) (show (8 : Nat) ≠ 7 by decide), updV_ne (xs := xs) (show (10 : Nat) ≠ 7 by decide)]; exact H6.out), (fun _ => by simp only [upd_ne (L := L) (show (6 : Nat) ≠ 7 by decide), upd_ne (L := L) (show (8 : Nat) ≠ 7 by decide), upd_ne (L := L) (show (10 : Nat) ≠ 7 by decide), updV_ne (xs := xs) (show (6 : Nat) ≠ 7 by decide), updV_ne (xs := xs) (show (8 : Nat) ≠ 7 by decide), updV_ne (xs := xs) (show (10 : Nat) ≠ 7 by decide), updV_self]; first | exact ⟨d6, rfl⟩ | exact ⟨d6, trivial⟩), (by simp only [upd_ne (L := L) (show (6 : Nat) ≠ 7 by decide), upd_ne (L := L) (show (8 : Nat) ≠ 7 by decide), upd_ne (L := L) (show (10 : Nat) ≠ 7 by decide), updV_ne (xs := xs) (show (6 : Nat) ≠ 7 by decide), updV_ne (xs := xs) (show (8 : Nat) ≠ 7 by decide), updV_ne (xs := xs) (show (10 : Nat) ≠ 7 by decide)]; exact H8.out), (by simp only [upd_ne (L := L) (show (6 : Nat) ≠ 7 by decide), upd_ne (L := L) (show (8 : Nat) ≠ 7 by decide), upd_ne (L := L) (show (10 : Nat) ≠ 7 by decide), updV_ne (xs := xs) (show (6 : Nat) ≠ 7 by decide), updV_ne (xs := xs) (show (8 : Nat) ≠ 7 by decide), updV_ne (xs := xs) (show (10 : Nat) ≠ 7 by decide)]; exact H10.out)⟩
          focus
            obtain ⟨d7, _⟩ := hd
            obtain ⟨ρ, hρ⟩ : ∃ ρ, a'.eval = ρ := ⟨_, rfl⟩
            have hcst : ∀ v, ρ (.const v) = v := fun v => (congrFun hρ (.const v)).symm
            have v7 : ρ (.tmp 42) = xs 7 := (congrFun hρ (.tmp 42)).symm.trans (HF.out.ev 7 rfl d7)
            rw [if_pos (by simp [Region.wanted])]
            unfold Oper.wp
            rw [hρ]
            clear hρ
            have H6 := Lib.hid h6
            have H7 := Lib.hid h7
            have H8 := Lib.hid h8
            have H10 := Lib.hid h10
            clear h6 h7 h8 h10
            obtain ⟨h6, e7⟩ := H7.out d7
            obtain ⟨vr, e6, _⟩ := H6.out h6
            rw [e7, e6] at v7
            have H66 := Lib.hid h6
            have E6 := Lib.hid e6
            clear h6 e6 e7
            go_simp
            exact hK.out _ _ ⟨HVA.out.free (i := 8) (by rw [HVV.out]; rfl) _, hb, (by simp only [upd_ne (L := L) (show (6 : Nat) ≠ 8 by decide), upd_ne (L := L) (show (7 : Nat) ≠ 8 by decide), upd_ne (L := L) (show (10 : Nat) ≠ 8 by decide), updV_ne (xs := xs) (show (6 : Nat) ≠ 8 by decide), updV_ne (xs := xs) (show (7 : Nat) ≠ 8 by decide), updV_ne (xs := xs) (show (10 : Nat) ≠ 8 by decide)]; exact H6.out), (by simp only [upd_ne (L := L) (show (6 : Nat) ≠ 8 by decide), upd_ne (L := L) (show (7 : Nat) ≠ 8 by decide), upd_ne (L := L) (show (10 : Nat) ≠ 8 by decide), updV_ne (xs := xs) (show (6 : Nat) ≠ 8 by decide), updV_ne (xs := xs) (show (7 : Nat) ≠ 8 by decide), updV_ne (xs := xs) (show (10 : Nat) ≠ 8 by decide)]; exact H7.out), (fun _ => by simp only [upd_ne (L := L) (show (6 : Nat) ≠ 8 by decide), upd_ne (L := L) (show (7 : Nat) ≠ 8 by decide), upd_ne (L := L) (show (10 : Nat) ≠ 8 by decide), updV_ne (xs := xs) (show (6 : Nat) ≠ 8 by decide), updV_ne (xs := xs) (show (7 : Nat) ≠ 8 by decide), updV_ne (xs := xs) (show (10 : Nat) ≠ 8 by decide), updV_self]; exact ⟨H66.out, _, E6.out⟩), (by simp only [upd_ne (L := L) (show (6 : Nat) ≠ 8 by decide), upd_ne (L := L) (show (7 : Nat) ≠ 8 by decide), upd_ne (L := L) (show (10 : Nat) ≠ 8 by decide), updV_ne (xs := xs) (show (6 : Nat) ≠ 8 by decide), updV_ne (xs := xs) (show (7 : Nat) ≠ 8 by decide), updV_ne (xs := xs) (show (10 : Nat) ≠ 8 by decide)]; exact H10.out)⟩
          focus
            obtain ⟨d7, _⟩ := hd
            obtain ⟨ρ, hρ⟩ : ∃ ρ, a'.eval = ρ := ⟨_, rfl⟩
            have hcst : ∀ v, ρ (.const v) = v := fun v => (congrFun hρ (.const v)).symm
            have v7 : ρ (.tmp 42) = xs 7 := (congrFun hρ (.tmp 42)).symm.trans (HF.out.ev 7 rfl d7)
            rw [if_pos (by simp [Region.wanted])]
            unfold Oper.wp
            rw [hρ]
            clear hρ
            have H6 := Lib.hid h6
            have H7 := Lib.hid h7
            have H8 := Lib.hid h8
            have H10 := Lib.hid h10
            clear h6 h7 h8 h10
            obtain ⟨h6, e7⟩ := H7.out d7
            obtain ⟨vr, e6, _⟩ := H6.out h6
            rw [e7, e6] at v7
            have H66 := Lib.hid h6
            have E6 := Lib.hid e6
            clear h6 e6 e7
            go_simp
            exact hK.out _ _ ⟨HVA.out.set (i := 9) (by rw [HVV.out]; rfl), hb, (by simp only [upd_ne (L := L) (show (6 : Nat) ≠ 9 by decide), upd_ne (L := L) (show (7 : Nat) ≠ 9 by decide), upd_ne (L := L) (show (8 : Nat) ≠ 9 by decide), upd_ne (L := L) (show (10 : Nat) ≠ 9 by decide), updV_ne (xs := xs) (show (6 : Nat) ≠ 9 by decide), updV_ne (xs := xs) (show (7 : Nat) ≠ 9 by decide), updV_ne (xs := xs) (show (8 : Nat) ≠ 9 by decide), updV_ne (xs := xs) (show (10 : Nat) ≠ 9 by decide)]; exact H6.out), (by simp only [upd_ne (L := L) (show (6 : Nat) ≠ 9 by decide), upd_ne (L := L) (show (7 : Nat) ≠ 9 by decide), upd_ne (L := L) (show (8 : Nat) ≠ 9 by decide), upd_ne (L := L) (show (10 : Nat) ≠ 9 by decide), updV_ne (xs := xs) (show (6 : Nat) ≠ 9 by decide), updV_ne (xs := xs) (show (7 : Nat) ≠ 9 by decide), updV_ne (xs := xs) (show (8 : Nat) ≠ 9 by decide), updV_ne (xs := xs) (show (10 : Nat) ≠ 9 by decide)]; exact H7.out), (by simp only [upd_ne (L := L) (show (6 : Nat) ≠ 9 by decide), upd_ne (L := L) (show (7 : Nat) ≠ 9 by decide), upd_ne (L := L) (show (8 : Nat) ≠ 9 by decide), upd_ne (L := L) (show (10 : Nat) ≠ 9 by decide), updV_ne (xs := xs) (show (6 : Nat) ≠ 9 by decide), updV_ne (xs := xs) (show (7 : Nat) ≠ 9 by decide), updV_ne (xs := xs) (show (8 : Nat) ≠ 9 by decide), updV_ne (xs := xs) (show (10 : Nat) ≠ 9 by decide)]; exact H8.out), (by simp only [upd_ne (L := L) (show (6 : Nat) ≠ 9 by decide), upd_ne (L := L) (show (7 : Nat) ≠ 9 by decide), upd_ne (L := L) (show (8 : Nat) ≠ 9 by decide), upd_ne (L := L) (show (10 : Nat) ≠ 9 by decide), updV_ne (xs := xs) (show (6 : Nat) ≠ 9 by decide), updV_ne (xs := xs) (show (7 : Nat) ≠ 9 by decide), updV_ne (xs := xs) (show (8 : Nat) ≠ 9 by decide), updV_ne (xs := xs) (show (10 : Nat) ≠ 9 by decide)]; exact H10.out)⟩
          focus
            obtain ⟨d8, d6, d0, d1, d2, d3, d4, d5, _, d7, _, _⟩ := hd
            obtain ⟨ρ, hρ⟩ : ∃ ρ, a'.eval = ρ := ⟨_, rfl⟩
            have hcst : ∀ v, ρ (.const v) = v := fun v => (congrFun hρ (.const v)).symm
            have v8 : ρ (.tmp 50) = xs 8 := (congrFun hρ (.tmp 50)).symm.trans (HF.out.ev 8 rfl d8)
            rw [if_pos (by simp [Region.wanted])]
            unfold Oper.wp
            rw [hρ]
            clear hρ
            have H6 := Lib.hid h6
            have H7 := Lib.hid h7
            have H8 := Lib.hid h8
            have H10 := Lib.hid h10
            clear h6 h7 h8 h10
            obtain ⟨h6, y, e6⟩ := H8.out d8
            have H66 := Lib.hid h6
            have E6 := Lib.hid e6
            clear h6 e6
            go_simp
            exact hK.out _ _ ⟨HVA.out.free (i := 10) (by rw [HVV.out]; rfl) _, hb, (by simp only [upd_ne (L := L) (show (6 : Nat) ≠ 10 by decide), upd_ne (L := L) (show (7 : Nat) ≠ 10 by decide), upd_ne (L := L) (show (8 : Nat) ≠ 10 by decide), updV_ne (xs := xs) (show (6 : Nat) ≠ 10 by decide), updV_ne (xs := xs) (show (7 : Nat) ≠ 10 by decide), updV_ne (xs := xs) (show (8 : Nat) ≠ 10 by decide)]; exact H6.out), (by simp only [upd_ne (L := L) (show (6 : Nat) ≠ 10 by decide), upd_ne (L := L) (show (7 : Nat) ≠ 10 by decide), upd_ne (L := L) (show (8 : Nat) ≠ 10 by decide), updV_ne (xs := xs) (show (6 : Nat) ≠ 10 by decide), updV_ne (xs := xs) (show (7 : Nat) ≠ 10 by decide), updV_ne (xs := xs) (show (8 : Nat) ≠ 10 by decide)]; exact H7.out), (by simp only [upd_ne (L := L) (show (6 : Nat) ≠ 10 by decide), upd_ne (L := L) (show (7 : Nat) ≠ 10 by decide), upd_ne (L := L) (show (8 : Nat) ≠ 10 by decide), updV_ne (xs := xs) (show (6 : Nat) ≠ 10 by decide), updV_ne (xs := xs) (show (7 : Nat) ≠ 10 by decide), updV_ne (xs := xs) (show (8 : Nat) ≠ 10 by decide)]; exact H8.out), (fun _ => by simp only [upd_ne (L := L) (show (6 : Nat) ≠ 10 by decide), upd_ne (L := L) (show (7 : Nat) ≠ 10 by decide), upd_ne (L := L) (show (8 : Nat) ≠ 10 by decide), updV_ne (xs := xs) (show (6 : Nat) ≠ 10 by decide), updV_ne (xs := xs) (show (7 : Nat) ≠ 10 by decide), updV_ne (xs := xs) (show (8 : Nat) ≠ 10 by decide), updV_self]; exact ⟨H66.out, _, E6.out⟩)⟩
          focus
            obtain ⟨d9, d10, d0, d1, d2, d3, d4, d5, d6, d7, d8, _, _, _⟩ := hd
            obtain ⟨ρ, hρ⟩ : ∃ ρ, a'.eval = ρ := ⟨_, rfl⟩
            have hcst : ∀ v, ρ (.const v) = v := fun v => (congrFun hρ (.const v)).symm
            have v9 : ρ (.tmp 51) = .int .i64 E1 := (congrFun hρ (.tmp 51)).symm.trans ((HF.out.ev 9 rfl d9).trans (HVA.out 9 _ (by rw [HVV.out]; rfl) d9))
            rw [if_pos (by simp [Region.wanted])]
            unfold Oper.wp
            rw [hρ]
            clear hρ
            have H6 := Lib.hid h6
            have H7 := Lib.hid h7
            have H8 := Lib.hid h8
            have H10 := Lib.hid h10
            clear h6 h7 h8 h10
            go_simp
            exact hK.out _ _ ⟨HVA.out.set (i := 11) (by rw [HVV.out]; rfl), hb, (by simp only [upd_ne (L := L) (show (6 : Nat) ≠ 11 by decide), upd_ne (L := L) (show (7 : Nat) ≠ 11 by decide), upd_ne (L := L) (show (8 : Nat) ≠ 11 by decide), upd_ne (L := L) (show (10 : Nat) ≠ 11 by decide), updV_ne (xs := xs) (show (6 : Nat) ≠ 11 by decide), updV_ne (xs := xs) (show (7 : Nat) ≠ 11 by decide), updV_ne (xs := xs) (show (8 : Nat) ≠ 11 by decide), updV_ne (xs := xs) (show (10 : Nat) ≠ 11 by decide)]; exact H6.out), (by simp only [upd_ne (L := L) (show (6 : Nat) ≠ 11 by decide), upd_ne (L := L) (show (7 : Nat) ≠ 11 by decide), upd_ne (L := L) (show (8 : Nat) ≠ 11 by decide), upd_ne (L := L) (show (10 : Nat) ≠ 11 by decide), updV_ne (xs := xs) (show (6 : Nat) ≠ 11 by decide), updV_ne (xs := xs) (show (7 : Nat) ≠ 11 by decide), updV_ne (xs := xs) (show (8 : Nat) ≠ 11 by decide), updV_ne (xs := xs) (show (10 : Nat) ≠ 11 by decide)]; exact H7.out), (by simp only [upd_ne (L := L) (show (6 : Nat) ≠ 11 by decide), upd_ne (L := L) (show (7 : Nat) ≠ 11 by decide), upd_ne (L := L) (show (8 : Nat) ≠ 11 by decide), upd_ne (L := L) (show (10 : Nat) ≠ 11 by decide), updV_ne (xs := xs) (show (6 : Nat) ≠ 11 by decide), updV_ne (xs := xs) (show (7 : Nat) ≠ 11 by decide), updV_ne (xs := xs) (show (8 : Nat) ≠ 11 by decide), updV_ne (xs := xs) (show (10 : Nat) ≠ 11 by decide)]; exact H8.out), (by simp only [upd_ne (L := L) (show (6 : Nat) ≠ 11 by decide), upd_ne (L := L) (show (7 : Nat) ≠ 11 by decide), upd_ne (L := L) (show (8 : Nat) ≠ 11 by decide), upd_ne (L := L) (show (10 : Nat) ≠ 11 by decide), updV_ne (xs := xs) (show (6 : Nat) ≠ 11 by decide), updV_ne (xs := xs) (show (7 : Nat) ≠ 11 by decide), updV_ne (xs := xs) (show (8 : Nat) ≠ 11 by decide), updV_ne (xs := xs) (show (10 : Nat) ≠ 11 by decide)]; exact H10.out)⟩
        focus
          intro L w' xs hL hJ
          obtain ⟨hv, hb, h6, h7, h8, h10⟩ := hJ
          have e0 : xs 0 = .agg #[.slice ao n.offices.length co, .slice ap n.people.length cp, .slice ac n.classes.length cc, .slice ah n.homes.length ch] := hv 0 _ (by rw [HVV.out]; rfl) (hL 0 (by decide))
          have e1 : xs 1 = .slice (some ⟨b, off, none⟩) l.length cw := hv 1 _ (by rw [HVV.out]; rfl) (hL 1 (by decide))
          have e2 : xs 2 = .int .i64 k := hv 2 _ (by rw [HVV.out]; rfl) (hL 2 (by decide))
          have e3 : xs 3 = .int .i64 k := hv 3 _ (by rw [HVV.out]; rfl) (hL 3 (by decide))
          have e4 : xs 4 = .int .i64 ((k : Int) + 1) := hv 4 _ (by rw [HVV.out]; rfl) (hL 4 (by decide))
          have e5 : xs 5 = .slice (some ⟨b, off + k * 11, none⟩) 1 (cw - k) := hv 5 _ (by rw [HVV.out]; rfl) (hL 5 (by decide))
          have e9 : xs 9 = .int .i64 E1 := hv 9 _ (by rw [HVV.out]; rfl) (hL 9 (by decide))
          have e11 : xs 11 = .int .i64 E1 := hv 11 _ (by rw [HVV.out]; rfl) (hL 11 (by decide))
          simp only [putGo, Act.put, List.setIfInBounds_toArray, List.set_cons_zero, List.set_cons_succ, e0, e1, e2, e3, e4, e5, e9, e11]
          clear hv e0 e1 e2 e3 e4 e5 e9 e11
          obtain ⟨vr, e6, ho6⟩ := h6 (hL 6 (by decide))
          obtain ⟨_, y, e10⟩ := h10 (hL 10 (by decide))
          rw [e6] at e10
          have e10' : xs 10 = vr := by injection e10 with e10; simp at e10; exact e10.1.symm
          rw [e10']
          obtain ⟨ar, nr, cr, rfl⟩ := ho6.form'
          have HB7 : Hid (Below wA.heap.size wA w') := Lib.hid (HB6.out.trans (hb.mono hsz6))
          have HO7 := Lib.hid ho6
          have HY7 := Lib.hid (HY.out.below orderSK HB7.out)
          have HK7 := Lib.hid (HK6.out.ext hb)
          have hsz7 := HB7.out.size
          clear hb h6 h7 h8 h10 ho6 e6 e10 e10' hL
          obtain ⟨w7, rfl⟩ : ∃ W, W = w' := ⟨_, rfl⟩
          have HSRC : Hid (SrcDeep 11 orderRS default w5.heap.size (Value.ownBlock (.slice ay ny cy)) w7 (.slice ar nr cr) os1) := Lib.hid (HO7.out.src orderSK (by omega) (fun q e => by have := HY.out.lt q e; omega))
          obtain ⟨A, hA⟩ : ∃ A, allTo n l k = A := ⟨_, rfl⟩
          rw [hA] at HAS
          rw [hA]
          clear hA
          obtain ⟨A2, hA2⟩ : ∃ A2, (A && decide (E1 = 0)) = A2 := ⟨_, rfl⟩
          have HAS2 : Hid (allTo n l (k + 1) = A2) := Lib.hid (by rw [HAS.out, hA2])
          cases A
          focus
            obtain rfl : A2 = false := by rw [← hA2]; rfl
            clear hA2
            go_upto_region 13 with fail
          rotate_left
          by_cases he1 : E1 = 0
          focus
            obtain rfl : A2 = true := by rw [← hA2, he1]; rfl
            have heb : (E1 == 0) = true := by simpa using he1
            clear hA2 he1
            go_upto_region 13 with fail
            clear heb
          rotate_left
          focus
            obtain rfl : A2 = false := by rw [← hA2, decide_eq_false he1]; rfl
            have heb : (E1 == 0) = false := by simpa using he1
            clear hA2 he1
            go_upto_region 13 with fail
            clear heb
          all_goals
            go_wp2_with (at_builtin; refine append_deepA orderSK (by decide) order_inf Try.underlying30 rfl (by decide) (by decide) rfl (.tmp 57) (.tmp 58) rfl (C := w5.heap.size) (v := .slice ay ny cy) (vx := .slice ar nr cr) (xs := catTo n l k) (ys := os1) rfl HY7.out rfl HSRC.out (by omega) (by omega) ?_; intro v8 w8 ho8 hg8 hat8; obtain ⟨a8, n8, c8, rfl⟩ := ho8.form'; have HO8 := Lib.hid ho8; have HG8 := Lib.hid hg8; clear ho8 hg8 hat8)
            have HB8 : Hid (Below w5.heap.size w5 w8) := Lib.hid ((HBR.out.trans (HB7.out.mono hszr)).grown HG8.out (by omega) (fun q e => (HY.out.lt q e).1))
            have HK8 := Lib.hid (HK7.out.grown HG8.out (fun e => by have := (HY.out.lt z e.symm).2; have := HZ.out; omega))
            have HO9 : Hid (OwnOrds w5.heap.size w8 (.slice a8 n8 c8) (catTo n l (k + 1))) := Lib.hid (by rw [HCS.out]; exact HO8.out)
            go_loopw [61] (fun jv wr => ∃ j, j ≤ k ∧ jv = .int .i64 j ∧ Drew w8 wr ∧ ∀ b, b < j → nameAt l k ≠ nameAt l b) (fun jv _ => k - (intOf jv).toNat)
            case atStart => exact ⟨0, by omega, rfl, Drew.refl _, fun b hb => by omega⟩
            case round =>
              obtain ⟨j, hj, rfl, hd, hall⟩ := hrel
              have HD := Lib.hid hd
              have HA := Lib.hid hall
              have HBR2 : Hid (Below w5.heap.size w5 wr) := Lib.hid (HB8.out.trans (hd.below _))
              have HKR := Lib.hid (HK8.out.ext (hd.below _))
              clear hd hall
              by_cases hjk : j < k
              · have hjl2 : j < l.length := by omega
                obtain ⟨b', off', va', e', bb', hst', hok', k0, _⟩ := IsWishes.cell (HLK.out wr (HB5.out.trans (HBR2.out.mono HB5.out.size))) hjl2
                cases e'
                rw [show (wishAt l j).name = nameAt l j from rfl] at k0
                have m0 := HKR.out.2 0
                simp at m0
                have HDJ := Lib.hid (HDUP.out j hjk)
                obtain ⟨s2, hs2⟩ : ∃ s, nameAt l j = s := ⟨_, rfl⟩
                obtain ⟨s1, hs1⟩ : ∃ s, nameAt l k = s := ⟨_, rfl⟩
                have HS1 := Lib.hid hs1
                have HS2 := Lib.hid hs2
                have hs3 : X.name = s1 := by rw [← HNM.out]; exact hs1
                rw [hs2] at k0 HDJ
                rw [hs1] at HDJ
                rw [hs3] at m0
                clear hs1 hs2 hs3 hst' hok'
                by_cases hse : s2 = s1
                · have hseb : (s2 == s1) = true := by simpa using hse
                  have hE0 : (E != 0) = true := by simpa using HDJ.out hse.symm
                  clear hse
                  go_wp2
                  go_quiet (fail)
                  go_wp2
                  go_ret
                  exact ⟨rfl, (HBW5.out.trans (HBR2.out.mono HBW5.out.size)).trans ((Drew.refl wr).drewN _ |>.below _)⟩
                · have hseb : (s2 == s1) = false := by simpa using hse
                  have HSE := Lib.hid hse
                  clear hse
                  go_wp2
                  go_quiet (fail)
                  go_wp2
                  go_roundw
                  case rel =>
                    refine ⟨j + 1, by omega, by go_num, HD.out.drewN _, fun b hb => ?_⟩
                    by_cases hbj : b < j
                    · exact HA.out b hbj
                    · obtain rfl : b = j := by omega
                      rw [HS1.out, HS2.out]; exact fun e => HSE.out e.symm
                  case measure => simp [intOf]; omega
              · obtain rfl : j = k := by omega
                go_wp2
                go_roundw
                case rel =>
                  refine ⟨j + 1, by omega, by go_num, HO9.out.below orderSK (HD.out.below _), by rw [HAS2.out], HBR2.out, fun a ha b hb => ?_⟩
                  by_cases haj : a < j
                  · exact HDF.out a haj b hb
                  · obtain rfl : a = j := by omega
                    exact HA.out b hb
                case measure => simp [intOf]; omega
end Go.Proofs.Ytmfbabmejbppjaa
