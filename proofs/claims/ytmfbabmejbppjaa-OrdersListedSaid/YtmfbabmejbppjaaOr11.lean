/-
  Layer 18: the walk of (tables).order.
-/
import Derived.Test.YtmfbabmejbppjaaOr10
import Derived.StillTailTactics
set_option linter.unusedVariables false
set_option linter.unusedSimpArgs false
namespace Go.Proofs.Ytmfbabmejbppjaa
open Go.RowKit

/-- a store of what a cell holds -/
theorem CellsN.same {w : World} {b : Nat} {c : Array Value} (h : CellsN w b c) {i : Nat} {u : Value} (hi : c[i]? = some u) : w.setCell ⟨b, i, none⟩ u = w := by
  obtain ⟨t, h⟩ := h
  have hc : c.setIfInBounds i u = c := by
    apply Array.ext_getElem?
    intro j
    by_cases e : i = j
    · subst e
      have hlt := (Array.getElem?_eq_some_iff.1 hi).1
      rw [Array.getElem?_setIfInBounds_self_of_lt hlt, hi]
    · rw [Array.getElem?_setIfInBounds_ne e]
  have hh : (w.setCell ⟨b, i, none⟩ u).heap = w.heap := by
    apply Array.ext_getElem?
    intro k
    by_cases e : b = k
    · subst e
      simp [World.setCell, Array.getElem?_modify, h, hc]
    · simp [World.setCell, Array.getElem?_modify, e]
  cases w
  simp only [World.setCell] at hh ⊢
  rw [hh]
theorem CellsN.drewL {w : World} {b : Nat} {c : Array Value} (h : CellsN w b c) : CellsN w.drew b c := h
theorem below_drewL {B : Nat} {w w' : World} (h : Below B w w') : Below B w w'.drew := h.trans ((Drew.refl w').drewN 1 |>.below _)
def wishV (va : Value) (x : WishD) : Value := .agg (wishC va x).toArray
structure TabAt (w : World) (r0 r1 r2 : Nat) (n : NamesD) : Prop where
  o : NameMap w r0 n.offices
  p : NameMap w r1 n.people
  c : NameMap w r2 n.classes
theorem TabAt.ext {w w' : World} {r0 r1 r2 : Nat} {n : NamesD} (h : TabAt w r0 r1 r2 n) (hb : Below w.heap.size w w') : TabAt w' r0 r1 r2 n := ⟨h.o.ext hb, h.p.ext hb, h.c.ext hb⟩
theorem checkN_ok {n : NamesD} (h : checkN n = 0) : n.offices.Nodup ∧ n.people.Nodup ∧ n.classes.Nodup ∧ n.homes.length = n.people.length ∧ (∀ q ∈ n.homes, 0 ≤ q ∧ q < n.offices.length) := by
  unfold checkN at h
  split at h
  · cases h
  · split at h
    · rename_i h2
      unfold namesOk at h2
      simp only [Bool.and_eq_true, decide_eq_true_eq, List.all_eq_true] at h2
      obtain ⟨⟨⟨⟨h3, h4⟩, h5⟩, h6⟩, h7⟩ := h2
      exact ⟨h3.2, h4.2, h5.2, h6, h7⟩
    · cases h
/-- what order answers -/
def OrderPost (n : NamesD) (x : WishD) (w : World) (e : Ending) (w' : World) : Prop :=
  ∃ vb o, e = .returned (.tuple #[orderV vb o, .bool (knownB n x)]) ∧ Below w.heap.size w w' ∧ OwnInts w.heap.size w' vb o.against ∧ okO o ∧ (knownB n x = true → o = orderOf n x)
theorem look_int {xs : List Str} (hnd : xs.Nodup) (s : Str) : (slook (slist xs xs.length) (bsOf s)).getD (.int .i64 0) = .int .i64 (if idxI xs s < 0 then 0 else idxI xs s) ∧ (slook (slist xs xs.length) (bsOf s)).isSome = decide (0 ≤ idxI xs s) := by
  rw [NameMap.look hnd]
  by_cases h : idxI xs s < 0
  · rw [if_pos h, if_pos h]
    exact ⟨rfl, by simp; omega⟩
  · rw [if_neg h, if_neg h]
    exact ⟨rfl, by simp; omega⟩

set_option maxHeartbeats 8000000 in
set_option maxRecDepth 100000 in
theorem order_any (B : Nat) (w : World) (v : NamesV) (n : NamesD) (va : Value) (x : WishD) (r0 r1 r2 : Nat) (hB : B ≤ w.heap.size) (hv : IsNames B w v n) (hx : IsStrs B w va x.against) (hok : okW x) (ht : TabAt w r0 r1 r2 n) (hc : checkN n = 0) (hs : SmallN n) (hl : x.against.length ≤ 1000000) :
    Calls Try.prog 27 #[.agg #[.map (some r0), .map (some r1), .map (some r2)], v.agg, wishV va x] w (OrderPost n x w) := by
  have hzi : ∀ W : World, (zeroValue 3).run Try.prog W = .ok (.int .i64 0) W := fun W => by rfl
  obtain ⟨n0, n1, n2, n3, n4⟩ := checkN_ok hc
  obtain ⟨vo, vp, vc, vh⟩ := v
  obtain ⟨ao, co, e, ho1, ho2, ho3⟩ := hv.o.form
  simp only at e; subst e
  obtain ⟨ap, cp, e, hp1, hp2, hp3⟩ := hv.p.form
  simp only at e; subst e
  obtain ⟨ac, cc, e, hc1, hc2, hc3⟩ := hv.c.form
  simp only at e; subst e
  obtain ⟨bh, oh, ch, ⟨ah, e, hh1, hh2, hh4⟩, hh3, hh5, hh6⟩ := id hv.h
  simp only at e; subst e
  obtain ⟨aa, ca, e, ha1, ha2, ha3⟩ := hx.form
  subst e
  obtain ⟨b0, hb0⟩ : ∃ b, w.heap.size = b := ⟨_, rfl⟩
  have HLO := Lib.hid (look_int n0 x.frm)
  have HLP := Lib.hid (look_int n1 x.to)
  have HLC := Lib.hid (look_int n2 x.cls)
  have HLA := Lib.hid (fun s => look_int n0 s)
  have HND := Lib.hid (And.intro n3 n4)
  clear n0 n1 n2 n3 n4 hc
  have HKN : Hid (knownB n x = (x.against.all (fun s => decide (0 ≤ idxI n.offices s)) && decide (0 ≤ idxI n.offices x.frm) && decide (0 ≤ idxI n.people x.to) && decide (0 ≤ idxI n.classes x.cls))) := Lib.hid rfl
  obtain ⟨W1, hW1⟩ : ∃ W, ((((w.alloc (.cells #[.map (some r0), .map (some r1), .map (some r2)] 53)).alloc (.cells #[.slice ao n.offices.length co, .slice ap n.people.length cp, .slice ac n.classes.length cc, .slice ah n.homes.length ch] 25)).alloc (.cells (wishC (.slice aa x.against.length ca) x).toArray 41)).alloc (.cells #[.int .i64 0, .int .i64 0, .int .i64 0, .int .i64 0, .int .i64 0, .int .i64 0, .int .i64 0, .int .i64 0, .slice none 0 0, .bool false, .int .i64 0] 38)) = W := ⟨_, rfl⟩
  have HB1 : Hid (Below w.heap.size w W1) := Lib.hid (by rw [← hW1]; exact (((box_below' w _).alloc (by simp) _).alloc (by simp; omega) _).alloc (by simp; omega) _)
  have HT1 : Hid (Box W1 b0 #[.map (some r0), .map (some r1), .map (some r2)]) := Lib.hid (by rw [← hW1, ← hb0]; exact (((Box.new _ _ _).alloc _).alloc _).alloc _)
  have HN1 : Hid (Box W1 (b0 + 1) #[.slice ao n.offices.length co, .slice ap n.people.length cp, .slice ac n.classes.length cc, .slice ah n.homes.length ch]) := Lib.hid (by
    rw [← hW1, ← hb0]
    have := Box.new (w.alloc (.cells #[.map (some r0), .map (some r1), .map (some r2)] 53)) #[.slice ao n.offices.length co, .slice ap n.people.length cp, .slice ac n.classes.length cc, .slice ah n.homes.length ch] 25
    rw [World.size_alloc] at this
    exact (this.alloc _).alloc _)
  have HX1 : Hid (Box W1 (b0 + 1 + 1) (wishC (.slice aa x.against.length ca) x).toArray) := Lib.hid (by
    rw [← hW1, ← hb0]
    have := Box.new ((w.alloc (.cells #[.map (some r0), .map (some r1), .map (some r2)] 53)).alloc (.cells #[.slice ao n.offices.length co, .slice ap n.people.length cp, .slice ac n.classes.length cc, .slice ah n.homes.length ch] 25)) (wishC (.slice aa x.against.length ca) x).toArray 41
    rw [World.size_alloc, World.size_alloc] at this
    exact this.alloc _)
  have HO1 : Hid (CellsN W1 (b0 + 1 + 1 + 1) #[.int .i64 0, .int .i64 0, .int .i64 0, .int .i64 0, .int .i64 0, .int .i64 0, .int .i64 0, .int .i64 0, .slice none 0 0, .bool false, .int .i64 0]) := Lib.hid (by
    rw [← hW1, ← hb0]
    have := CellsN.new (((w.alloc (.cells #[.map (some r0), .map (some r1), .map (some r2)] 53)).alloc (.cells #[.slice ao n.offices.length co, .slice ap n.people.length cp, .slice ac n.classes.length cc, .slice ah n.homes.length ch] 25)).alloc (.cells (wishC (.slice aa x.against.length ca) x).toArray 41)) #[.int .i64 0, .int .i64 0, .int .i64 0, .int .i64 0, .int .i64 0, .int .i64 0, .int .i64 0, .int .i64 0, .slice none 0 0, .bool false, .int .i64 0] 38
    rw [World.size_alloc, World.size_alloc, World.size_alloc] at this
    exact this)
  have HM1 : Hid (TabAt W1 r0 r1 r2 n) := Lib.hid (ht.ext HB1.out)
  have HM0 := Lib.hid ht
  have HA0 := Lib.hid hx
  have HV1 := Lib.hid (hv.below HB1.out hB)
  have HA1 := Lib.hid (hx.below strK HB1.out hB)
  have HW1 := Lib.hid hW1
  have HB0 := Lib.hid hb0
  clear hv hx ht hW1 hh5 hh6 hh4
  obtain ⟨_, tr⟩ := HT1.out
  obtain ⟨_, xr⟩ := HX1.out
  have t0 := tr 0
  have t1 := tr 1
  have t2 := tr 2
  have x1 := xr 1
  have x2 := xr 2
  have x3 := xr 3
  simp [wishC] at t0 t1 t2 x1 x2 x3
  clear tr xr
  unfold NamesV.agg wishV wishC
  simp only
  unfold wishC at HW1
  go_enter Try.func27, Try.ntmps27
  go_upto_region 1 with fail
  try rw [hb0]
  rw [HW1.out]
  have HZ := Lib.hid hzi
  obtain ⟨F0, hF0⟩ : ∃ F, decide (0 ≤ idxI n.offices x.frm) = F := ⟨_, rfl⟩
  obtain ⟨F1, hF1⟩ : ∃ F, decide (0 ≤ idxI n.people x.to) = F := ⟨_, rfl⟩
  obtain ⟨F2, hF2⟩ : ∃ F, decide (0 ≤ idxI n.classes x.cls) = F := ⟨_, rfl⟩
  obtain ⟨i0, hi0⟩ : ∃ i, (if idxI n.offices x.frm < 0 then 0 else idxI n.offices x.frm) = i := ⟨_, rfl⟩
  obtain ⟨i1, hi1⟩ : ∃ i, (if idxI n.people x.to < 0 then 0 else idxI n.people x.to) = i := ⟨_, rfl⟩
  obtain ⟨i2, hi2⟩ : ∃ i, (if idxI n.classes x.cls < 0 then 0 else idxI n.classes x.cls) = i := ⟨_, rfl⟩
  rw [hF0, hi0] at HLO
  rw [hF1, hi1] at HLP
  rw [hF2, hi2] at HLC
  rw [hF0, hF1, hF2] at HKN
  have HF0 := Lib.hid hF0
  have HF1 := Lib.hid hF1
  have HF2 := Lib.hid hF2
  have HI0 := Lib.hid hi0
  have HI1 := Lib.hid hi1
  have HI2 := Lib.hid hi2
  clear hF0 hF1 hF2 hi0 hi1 hi2 hzi hb0
  go_upto_region 4 with first
    | (refine wpList_lookup_strs rfl (.tmp 20) (.tmp 22) true rfl Try.underlying51 Try.underlying9 (HZ.out _) rfl HM1.out.o rfl ?_; rw [if_pos rfl, HLO.out.1, HLO.out.2])
    | (refine wpList_lookup_strs rfl (.tmp 28) (.tmp 30) true rfl Try.underlying51 Try.underlying9 (HZ.out _) rfl HM1.out.p rfl ?_; rw [if_pos rfl, HLP.out.1, HLP.out.2])
    | (refine wpList_lookup_strs rfl (.tmp 36) (.tmp 38) true rfl Try.underlying51 Try.underlying9 (HZ.out _) rfl HM1.out.c rfl ?_; rw [if_pos rfl, HLC.out.1, HLC.out.2])
  clear t0 t1 t2 x1 x2 x3
  have HB1' : Hid (Below b0 w W1) := Lib.hid (by rw [← HB0.out]; exact HB1.out)
  by_cases hF : F0 = true ∧ F1 = true ∧ F2 = true
  · obtain ⟨rfl, rfl, rfl⟩ := hF
    obtain ⟨k1, hk1⟩ : ∃ k : Nat, i1 = (k : Int) := ⟨i1.toNat, by have h1 := HI1.out; have h2 := HF1.out; simp at h2; rw [if_neg (by omega)] at h1; omega⟩
    have hk1l : k1 < n.homes.length := by
      have h1 := HI1.out
      have h2 := HF1.out
      simp at h2
      rw [if_neg (by omega)] at h1
      have h3 := idxI_lt (l := n.people) (s := x.to)
      have h4 := HND.out.1
      omega
    subst hk1
    obtain ⟨bh2, oh2, rfl, bb2, gh, glh⟩ := IsInts.cellK HV1.out.h hk1l
    have hk1i : (k1 : Int) < (n.homes.length : Int) := by omega
    have hk0i : (0 : Int) ≤ (k1 : Int) := by omega
    obtain ⟨_, nr⟩ := HN1.out
    obtain ⟨_, xr⟩ := HX1.out
    have m3 := nr 3
    have x4 := xr 4
    have x5 := xr 5
    have x6 := xr 6
    have x7 := xr 7
    have x9 := xr 9
    have x10 := xr 10
    simp [wishC] at m3 x4 x5 x6 x7 x9 x10
    clear nr xr
    have f0 := HO1.out.free 0
    have f1 := HO1.out.free 1
    have f2 := HO1.out.free 2
    have f3 := HO1.out.free 3
    have f4 := HO1.out.free 4
    have f5 := HO1.out.free 5
    have f6 := HO1.out.free 6
    have f7 := HO1.out.free 7
    have f8 := HO1.out.free 8
    have f9 := HO1.out.free 9
    have f10 := HO1.out.free 10
    have c0 := HO1.out.cell 0
    have c1 := HO1.out.cell 1
    have c2 := HO1.out.cell 2
    have c3 := HO1.out.cell 3
    have c4 := HO1.out.cell 4
    have c5 := HO1.out.cell 5
    have c6 := HO1.out.cell 6
    have c7 := HO1.out.cell 7
    have c8 := HO1.out.cell 8
    have c9 := HO1.out.cell 9
    have c10 := HO1.out.cell 10
    simp at c0 c1 c2 c3 c4 c5 c6 c7 c8 c9 c10
    have HO2' := (((((((((((HO1.out.set 0 (.int .i64 i0)).set 1 (.int .i64 k1)).set 2 (.int .i64 (nth n.homes k1))).set 3 (.int .i64 i2)).set 4 (.int .i64 x.after)).set 5 (.int .i64 x.by_)).set 6 (.int .i64 x.crowd)).set 7 (.int .i64 x.pay)).set 8 (.slice none 0 0)).set 9 (.bool x.back)).set 10 (.int .i64 x.els))
    simp only [List.setIfInBounds_toArray, List.set_cons_zero, List.set_cons_succ] at HO2'
    have HO2 := CellsN.drewL HO2'
    have HB2 := below_drewL (((((((((((HB1.out.setCell (p := ⟨b0 + 1 + 1 + 1, 0, none⟩) (by rw [HB0.out]; show b0 ≤ b0 + 1 + 1 + 1; omega) (.int .i64 i0)).setCell (p := ⟨b0 + 1 + 1 + 1, 1, none⟩) (by rw [HB0.out]; show b0 ≤ b0 + 1 + 1 + 1; omega) (.int .i64 k1)).setCell (p := ⟨b0 + 1 + 1 + 1, 2, none⟩) (by rw [HB0.out]; show b0 ≤ b0 + 1 + 1 + 1; omega) (.int .i64 (nth n.homes k1))).setCell (p := ⟨b0 + 1 + 1 + 1, 3, none⟩) (by rw [HB0.out]; show b0 ≤ b0 + 1 + 1 + 1; omega) (.int .i64 i2)).setCell (p := ⟨b0 + 1 + 1 + 1, 4, none⟩) (by rw [HB0.out]; show b0 ≤ b0 + 1 + 1 + 1; omega) (.int .i64 x.after)).setCell (p := ⟨b0 + 1 + 1 + 1, 5, none⟩) (by rw [HB0.out]; show b0 ≤ b0 + 1 + 1 + 1; omega) (.int .i64 x.by_)).setCell (p := ⟨b0 + 1 + 1 + 1, 6, none⟩) (by rw [HB0.out]; show b0 ≤ b0 + 1 + 1 + 1; omega) (.int .i64 x.crowd)).setCell (p := ⟨b0 + 1 + 1 + 1, 7, none⟩) (by rw [HB0.out]; show b0 ≤ b0 + 1 + 1 + 1; omega) (.int .i64 x.pay)).setCell (p := ⟨b0 + 1 + 1 + 1, 8, none⟩) (by rw [HB0.out]; show b0 ≤ b0 + 1 + 1 + 1; omega) (.slice none 0 0)).setCell (p := ⟨b0 + 1 + 1 + 1, 9, none⟩) (by rw [HB0.out]; show b0 ≤ b0 + 1 + 1 + 1; omega) (.bool x.back)).setCell (p := ⟨b0 + 1 + 1 + 1, 10, none⟩) (by rw [HB0.out]; show b0 ≤ b0 + 1 + 1 + 1; omega) (.int .i64 x.els))
    obtain ⟨W2, hW2⟩ : ∃ W, ((((((((((((W1.setCell ⟨b0 + 1 + 1 + 1, 0, none⟩ (.int .i64 i0)).setCell ⟨b0 + 1 + 1 + 1, 1, none⟩ (.int .i64 k1)).setCell ⟨b0 + 1 + 1 + 1, 2, none⟩ (.int .i64 (nth n.homes k1))).setCell ⟨b0 + 1 + 1 + 1, 3, none⟩ (.int .i64 i2)).setCell ⟨b0 + 1 + 1 + 1, 4, none⟩ (.int .i64 x.after)).setCell ⟨b0 + 1 + 1 + 1, 5, none⟩ (.int .i64 x.by_)).setCell ⟨b0 + 1 + 1 + 1, 6, none⟩ (.int .i64 x.crowd)).setCell ⟨b0 + 1 + 1 + 1, 7, none⟩ (.int .i64 x.pay)).setCell ⟨b0 + 1 + 1 + 1, 8, none⟩ (.slice none 0 0)).setCell ⟨b0 + 1 + 1 + 1, 9, none⟩ (.bool x.back)).setCell ⟨b0 + 1 + 1 + 1, 10, none⟩ (.int .i64 x.els)).drew) = W := ⟨_, rfl⟩
    rw [hW2] at HO2 HB2
    have HW2 := Lib.hid hW2
    have HG2 : Hid (Below (b0 + 1 + 1 + 1) W1 W2) := Lib.hid (by
      rw [← hW2]
      refine below_drewL ?_
      repeat (with_reducible refine Below.setCell ?_ ?_ _)
      all_goals first | exact Below.refl _ _ | exact Nat.le_refl _)
    have HOK : Hid (∀ l : List Int, okO ⟨i0, k1, nth n.homes k1, i2, x.after, x.by_, x.crowd, x.pay, l, x.back, x.els⟩) := Lib.hid (fun l => by
      have e0 := HI0.out
      have e2 := HI2.out
      have l0 := idxI_lt (l := n.offices) (s := x.frm)
      have l2 := idxI_lt (l := n.classes) (s := x.cls)
      have z0 := hs.o
      have z1 := hs.h
      have z2 := hs.c
      obtain ⟨_, _, _, _, q4, q5, q6, q7, q8⟩ := hok
      refine ⟨?_, ?_, glh, ?_, q4, q5, q6, q7, q8⟩
      · unfold I64; show _ ≤ i0 ∧ i0 ≤ _; split at e0 <;> omega
      · unfold I64; show _ ≤ (k1 : Int) ∧ (k1 : Int) ≤ _; omega
      · unfold I64; show _ ≤ i2 ∧ i2 ≤ _; split at e2 <;> omega)
    have HO2h := Lib.hid HO2
    have HB2h := Lib.hid HB2
    clear HO2' HO2 HB2 hW2
    go_wp2
    go_still_tail 21, (by kernel_rfl)
    change wpList _ _ _ _ _ W1.drew
    go_upto_region 7 with fail
    rw [HW2.out]
    clear gh m3 x4 x5 x6 x7 x9 x10 f0 f1 f2 f3 f4 f5 f6 f7 f8 f9 f10 c0 c1 c2 c3 c4 c5 c6 c7 c8 c9 c10
    clear hk1i hk0i
    obtain ⟨hd, hhd⟩ : ∃ z, nth n.homes k1 = z := ⟨_, rfl⟩
    have HHD := Lib.hid hhd
    rw [hhd] at HO2h HOK
    clear hhd HW2
    have HX2 := Lib.hid (HX1.out.below HG2.out (by omega))
    have HLEN := Lib.hid ha3
    obtain ⟨_, xr⟩ := HX2.out
    have x8 := xr 8
    simp [wishC] at x8
    clear xr
    go_wp2
    clear x8
    go_loopw [77] (fun iv wr => ∃ k va, k ≤ x.against.length ∧ iv = .int .i64 k ∧ CellsN wr (b0 + 1 + 1 + 1) #[.int .i64 i0, .int .i64 k1, .int .i64 hd, .int .i64 i2, .int .i64 x.after, .int .i64 x.by_, .int .i64 x.crowd, .int .i64 x.pay, va, .bool x.back, .int .i64 x.els] ∧ OwnInts (b0 + 1 + 1 + 1 + 1) wr va ((x.against.take k).map (idxI n.offices)) ∧ Below b0 w wr ∧ Below (b0 + 1 + 1 + 1) W1 wr ∧ (∀ s ∈ x.against.take k, 0 ≤ idxI n.offices s)) (fun iv _ => x.against.length - (intOf iv).toNat)
    case atStart => exact ⟨0, _, by omega, rfl, HO2h.out, OwnInts.nil _ _, by have := HB2h.out; rwa [HB0.out] at this, HG2.out, fun s hs => by simp at hs⟩
    case round =>
      obtain ⟨k, va, hk, rfl, hcr, hor, hbr, hb1r, hall⟩ := hrel
      obtain ⟨av, nv, cv, rfl⟩ := hor.form'
      have HCR := Lib.hid hcr
      have HOR := Lib.hid hor
      have HBR := Lib.hid hbr
      have HB1R := Lib.hid hb1r
      have HALL := Lib.hid hall
      have HBW : Hid (Below w.heap.size w wr) := Lib.hid (by rw [HB0.out]; exact hbr)
      have HMR := Lib.hid (HM0.out.ext HBW.out)
      have HAR := Lib.hid (HA0.out.below strK HBW.out hB)
      have hlr := hcr.lt
      have HTR := Lib.hid (HT1.out.below hb1r (by omega))
      clear hcr hor hbr hb1r hall
      have c0 := HCR.out.cell 0
      have c1 := HCR.out.cell 1
      have c2 := HCR.out.cell 2
      have c3 := HCR.out.cell 3
      have c4 := HCR.out.cell 4
      have c5 := HCR.out.cell 5
      have c6 := HCR.out.cell 6
      have c7 := HCR.out.cell 7
      have c8 := HCR.out.cell 8
      have c9 := HCR.out.cell 9
      have c10 := HCR.out.cell 10
      simp at c0 c1 c2 c3 c4 c5 c6 c7 c8 c9 c10
      have f0 := HCR.out.free 0
      have f1 := HCR.out.free 1
      have f2 := HCR.out.free 2
      have f3 := HCR.out.free 3
      have f4 := HCR.out.free 4
      have f5 := HCR.out.free 5
      have f6 := HCR.out.free 6
      have f7 := HCR.out.free 7
      have f8 := HCR.out.free 8
      have f9 := HCR.out.free 9
      have f10 := HCR.out.free 10
      by_cases hlt : k < x.against.length
      · obtain ⟨b, off, rfl, bb, g0, gl⟩ := IsStrs.cell HAR.out hlt
        obtain ⟨_, tr⟩ := HTR.out
        have t0 := tr 0
        simp at t0
        clear tr
        have HTK : Hid (x.against.take (k + 1) = x.against.take k ++ [strAt x.against k]) := Lib.hid (by rw [List.take_succ_eq_append_getElem hlt, strAt_get hlt])
        have HLK := Lib.hid (HLA.out (strAt x.against k))
        obtain ⟨sk, hsk⟩ : ∃ s, strAt x.against k = s := ⟨_, rfl⟩
        have HSK := Lib.hid hsk
        rw [hsk] at g0 gl HTK HLK
        clear hsk
        by_cases hi : 0 ≤ idxI n.offices sk
        · have hlk : slook (slist n.offices n.offices.length) (bsOf sk) = some (.int .i64 (idxI n.offices sk)) := by
            have h1 := HLK.out.1
            have h2 := HLK.out.2
            rw [if_neg (by omega)] at h1
            rw [decide_eq_true hi] at h2
            obtain ⟨v, hv⟩ := Option.isSome_iff_exists.1 h2
            rw [hv] at h1 ⊢
            simp at h1
            rw [h1]
          have HLK2 := Lib.hid hlk
          have HI64 : Hid (I64 (idxI n.offices sk)) := Lib.hid (by have := idxI_lt (l := n.offices) (s := sk); have := hs.o; unfold I64; omega)
          have HI := Lib.hid hi
          obtain ⟨ik, hik⟩ : ∃ z, idxI n.offices sk = z := ⟨_, rfl⟩
          have HIK := Lib.hid hik
          rw [hik] at HLK2 HI64 HI
          clear hik hi hlk
          go_wp2_with first
            | (refine wpList_lookup_strs rfl (.tmp 83) (.tmp 84) true rfl Try.underlying51 Try.underlying9 (HZ.out _) rfl HMR.out.o rfl ?_; rw [if_pos rfl, HLK2.out])
            | (at_builtin; refine append_int (n := ik) rfl (.tmp 92) (.tmp 94) rfl rfl (HOR.out.alloc _) rfl (World.cell?_alloc_at _ _ _ _ rfl) HI64.out (by have := HLEN.out; simp; omega) (by simp; omega) ?_
               intro v6 w6 ho6 hg6
               obtain ⟨a6, n6, c6', rfl⟩ := ho6.form'
               have HO6 := Lib.hid ho6
               have HG6 := Lib.hid hg6
               have hc6 := (HCR.out.alloc (.cells #[.int .i64 ik] 3)).grown hg6 (fun e => by have := HOR.out.1.lt _ e.symm; omega)
               have HC6 := Lib.hid hc6
               have HL6 : Hid (∀ q, Value.ownBlock (.slice a6 n6 c6') = some q → b0 + 1 + 1 + 1 + 1 ≤ q) := Lib.hid (fun q e => (ho6.1.lt q e).1)
               have HB6 : Hid (Below (b0 + 1 + 1 + 1) wr w6) := Lib.hid (((Below.refl _ wr).alloc (by omega) (.cells #[.int .i64 ik] 3)).grown hg6 (by simp; omega) (fun q e => by have := HOR.out.1.lt _ e; omega))
               have f86 := hc6.free 8
               have c86 := hc6.cell 8
               simp at c86
               clear ho6 hg6 hc6 c0 c1 c2 c3 c4 c5 c6 c7 c8 c9 c10 f0 f1 f2 f3 f4 f5 f6 f7 f8 f9 f10 g0 t0)
          go_roundw
          case rel =>
            refine ⟨k + 1, _, by omega, by go_num, by have := HC6.out.set 8 (.slice a6 n6 c6'); simpa using this, ?_, ?_, ?_, ?_⟩
            · rw [HTK.out, List.map_append, List.map_singleton, HIK.out]
              exact HO6.out.kept (grown_setCell w6 ⟨b0 + 1 + 1 + 1, 8, none⟩ (.slice a6 n6 c6')) (.inr (fun e => by have := HL6.out (b0 + 1 + 1 + 1) e; omega))
            · exact (HBR.out.trans (HB6.out.mono (by omega))).setCell (p := ⟨b0 + 1 + 1 + 1, 8, none⟩) (by show b0 ≤ b0 + 1 + 1 + 1; omega) _
            · exact (HB1R.out.trans HB6.out).setCell (p := ⟨b0 + 1 + 1 + 1, 8, none⟩) (Nat.le_refl _) _
            · intro s hs
              rw [HTK.out] at hs
              rcases List.mem_append.1 hs with hs | hs
              · exact HALL.out s hs
              · obtain rfl := List.mem_singleton.1 hs
                rw [HIK.out]; exact HI.out
          case measure => simp [intOf]; omega
        · have hlk : slook (slist n.offices n.offices.length) (bsOf sk) = none := by
            have h2 := HLK.out.2
            rw [decide_eq_false hi] at h2
            simpa using h2
          have HLK2 := Lib.hid hlk
          have HKF : Hid (knownB n x = false) := Lib.hid (by
            have h1 : x.against.all (fun s => decide (0 ≤ idxI n.offices s)) = false := by
              rw [List.all_eq_false]
              refine ⟨sk, by rw [← HSK.out, strAt_get hlt]; exact List.getElem_mem hlt, by simpa using hi⟩
            rw [HKN.out, h1]; rfl)
          clear hi hlk
          have s0 := HCR.out.same (i := 0) (u := .int .i64 i0) rfl
          have s1 := HCR.out.same (i := 1) (u := .int .i64 k1) rfl
          have s2 := HCR.out.same (i := 2) (u := .int .i64 hd) rfl
          have s3 := HCR.out.same (i := 3) (u := .int .i64 i2) rfl
          have s4 := HCR.out.same (i := 4) (u := .int .i64 x.after) rfl
          have s5 := HCR.out.same (i := 5) (u := .int .i64 x.by_) rfl
          have s6 := HCR.out.same (i := 6) (u := .int .i64 x.crowd) rfl
          have s7 := HCR.out.same (i := 7) (u := .int .i64 x.pay) rfl
          have s8 := HCR.out.same (i := 8) (u := .slice av nv cv) rfl
          have s9 := HCR.out.same (i := 9) (u := .bool x.back) rfl
          have s10 := HCR.out.same (i := 10) (u := .int .i64 x.els) rfl
          go_wp2_with (refine wpList_lookup_strs rfl (.tmp 83) (.tmp 84) true rfl Try.underlying51 Try.underlying9 (HZ.out _) rfl HMR.out.o rfl ?_; rw [if_pos rfl, HLK2.out])
          refine bodyPost_ret (v := .tuple #[orderV (.slice av nv cv) ⟨i0, k1, hd, i2, x.after, x.by_, x.crowd, x.pay, (x.against.take k).map (idxI n.offices), x.back, x.els⟩, .bool false]) (by simp [results, Try.results27, go_sem, c0, c1, c2, c3, c4, c5, c6, c7, c8, c9, c10]; rfl) rfl ?_
          exact ⟨_, _, by rw [HKF.out], HBW.out, HOR.out.mono (by rw [HB0.out]; omega), HOK.out _, fun h => by rw [HKF.out] at h; cases h⟩
      · obtain rfl : k = x.against.length := by omega
        have HKT : Hid (knownB n x = true) := Lib.hid (by
          have h1 : x.against.all (fun s => decide (0 ≤ idxI n.offices s)) = true := by
            rw [List.all_eq_true]
            intro s hs
            have := HALL.out s (by rwa [List.take_length])
            simpa using this
          rw [HKN.out, h1]; rfl)
        have HOF : Hid (orderOf n x = ⟨i0, k1, hd, i2, x.after, x.by_, x.crowd, x.pay, sortI (x.against.map (idxI n.offices)), x.back, x.els⟩) := Lib.hid (by
          have e0 := HI0.out
          have e1 := HI1.out
          have e2 := HI2.out
          have d0 := HF0.out
          have d1 := HF1.out
          have d2 := HF2.out
          simp only [decide_eq_true_eq] at d0 d1 d2
          rw [if_neg (by omega)] at e0 e1 e2
          unfold orderOf
          rw [e0, e1, e2]
          have : n.homes.getD ((k1 : Int)).toNat 0 = hd := by rw [← HHD.out]; unfold nth; rfl
          rw [this])
        have hor2 := HOR.out
        rw [List.take_length] at hor2
        have HOR2 := Lib.hid hor2
        clear hor2 hlt hk
        clear f0 f1 f2 f3 f4 f5 f6 f7 f8 f9 f10 c0 c1 c2 c3 c4 c5 c6 c7 c9 c10
        go_wp2_with fail
        refine (sort_own HOR2.out).mono ?_
        rintro e w7 ⟨rfl, ho7, hg7⟩
        have HO7 := Lib.hid ho7
        have hc7 := HCR.out.grown hg7 (fun e => by have := HOR.out.1.lt _ e.symm; omega)
        have HC7 := Lib.hid hc7
        have HB7 : Hid (Below w.heap.size w w7) := Lib.hid (HBW.out.grown hg7 (by have := HB0.out; omega) (fun q e => by have := HOR.out.1.lt _ e; have := HB0.out; omega))
        clear ho7 hg7 hc7 c8
        have c0 := HC7.out.cell 0
        have c1 := HC7.out.cell 1
        have c2 := HC7.out.cell 2
        have c3 := HC7.out.cell 3
        have c4 := HC7.out.cell 4
        have c5 := HC7.out.cell 5
        have c6 := HC7.out.cell 6
        have c7 := HC7.out.cell 7
        have c8 := HC7.out.cell 8
        have c9 := HC7.out.cell 9
        have c10 := HC7.out.cell 10
        simp at c0 c1 c2 c3 c4 c5 c6 c7 c8 c9 c10
        have f0 := HC7.out.free 0
        have f1 := HC7.out.free 1
        have f2 := HC7.out.free 2
        have f3 := HC7.out.free 3
        have f4 := HC7.out.free 4
        have f5 := HC7.out.free 5
        have f6 := HC7.out.free 6
        have f7 := HC7.out.free 7
        have f8 := HC7.out.free 8
        have f9 := HC7.out.free 9
        have f10 := HC7.out.free 10
        have s0 := HC7.out.same (i := 0) (u := .int .i64 i0) rfl
        have s1 := HC7.out.same (i := 1) (u := .int .i64 k1) rfl
        have s2 := HC7.out.same (i := 2) (u := .int .i64 hd) rfl
        have s3 := HC7.out.same (i := 3) (u := .int .i64 i2) rfl
        have s4 := HC7.out.same (i := 4) (u := .int .i64 x.after) rfl
        have s5 := HC7.out.same (i := 5) (u := .int .i64 x.by_) rfl
        have s6 := HC7.out.same (i := 6) (u := .int .i64 x.crowd) rfl
        have s7 := HC7.out.same (i := 7) (u := .int .i64 x.pay) rfl
        have s8 := HC7.out.same (i := 8) (u := .slice av nv cv) rfl
        have s9 := HC7.out.same (i := 9) (u := .bool x.back) rfl
        have s10 := HC7.out.same (i := 10) (u := .int .i64 x.els) rfl
        go_wp2
        refine bodyPost_ret (v := .tuple #[orderV (.slice av nv cv) ⟨i0, k1, hd, i2, x.after, x.by_, x.crowd, x.pay, sortI (x.against.map (idxI n.offices)), x.back, x.els⟩, .bool true]) (by simp [results, Try.results27, go_sem, c0, c1, c2, c3, c4, c5, c6, c7, c8, c9, c10]; rfl) rfl ?_
        exact ⟨_, _, by rw [HKT.out], HB7.out, HO7.out.mono (by rw [HB0.out]; omega), HOK.out _, fun _ => HOF.out.symm⟩
  · have HKF : Hid (knownB n x = false) := Lib.hid (by rw [HKN.out]; cases F0 <;> cases F1 <;> cases F2 <;> simp at hF ⊢)
    have c0 := HO1.out.cell 0
    have f0 := HO1.out.free 0
    have c1 := HO1.out.cell 1
    have f1 := HO1.out.free 1
    have c2 := HO1.out.cell 2
    have f2 := HO1.out.free 2
    have c3 := HO1.out.cell 3
    have f3 := HO1.out.free 3
    have c4 := HO1.out.cell 4
    have f4 := HO1.out.free 4
    have c5 := HO1.out.cell 5
    have f5 := HO1.out.free 5
    have c6 := HO1.out.cell 6
    have f6 := HO1.out.free 6
    have c7 := HO1.out.cell 7
    have f7 := HO1.out.free 7
    have c8 := HO1.out.cell 8
    have f8 := HO1.out.free 8
    have c9 := HO1.out.cell 9
    have f9 := HO1.out.free 9
    have c10 := HO1.out.cell 10
    have f10 := HO1.out.free 10
    simp at c0 c1 c2 c3 c4 c5 c6 c7 c8 c9 c10
    have s0 := HO1.out.same (i := 0) (u := .int .i64 0) rfl
    have s1 := HO1.out.same (i := 1) (u := .int .i64 0) rfl
    have s2 := HO1.out.same (i := 2) (u := .int .i64 0) rfl
    have s3 := HO1.out.same (i := 3) (u := .int .i64 0) rfl
    have s4 := HO1.out.same (i := 4) (u := .int .i64 0) rfl
    have s5 := HO1.out.same (i := 5) (u := .int .i64 0) rfl
    have s6 := HO1.out.same (i := 6) (u := .int .i64 0) rfl
    have s7 := HO1.out.same (i := 7) (u := .int .i64 0) rfl
    have s8 := HO1.out.same (i := 8) (u := .slice none 0 0) rfl
    have s9 := HO1.out.same (i := 9) (u := .bool false) rfl
    have s10 := HO1.out.same (i := 10) (u := .int .i64 0) rfl
    cases F0 <;> cases F1 <;> cases F2
    all_goals first
    | (exfalso; exact hF ⟨rfl, rfl, rfl⟩)
    | (clear hF
       go_wp2
       refine bodyPost_ret (v := .tuple #[orderV (.slice none 0 0) default, .bool false]) (by simp [results, Try.results27, go_sem, c0, c1, c2, c3, c4, c5, c6, c7, c8, c9, c10]; rfl) rfl ?_
       exact ⟨.slice none 0 0, default, by rw [HKF.out], HB1.out, OwnInts.nil _ _, by refine ⟨?_, ?_, ?_, ?_, ?_, ?_, ?_, ?_, ?_⟩ <;> (unfold I64; decide), fun h => by rw [HKF.out] at h; cases h⟩)
end Go.Proofs.Ytmfbabmejbppjaa
