/-
  Layer 18: the walk of frankingref18.resolved (printed by tools/gen16.py).
-/
import Derived.Test.YtmfbabmejbppjaaOr15
import Derived.Test.YtmfbabmejbppjaaOr14
import Derived.Test.YtmfbabmejbppjaaRegV
set_option linter.unusedVariables false
set_option linter.unusedSimpArgs false
namespace Go.Proofs.Ytmfbabmejbppjaa
open Go.RowKit

theorem orderOf_eq {n : NamesD} {x : WishD} {i0 k1 i2 : Nat} {hd : Int} (h0 : idxI n.offices x.frm = i0) (h1 : idxI n.people x.to = k1) (h2 : idxI n.classes x.cls = i2) (h3 : nth n.homes k1 = hd) :
    orderOf n x = ⟨i0, k1, hd, i2, x.after, x.by_, x.crowd, x.pay, sortI (x.against.map (idxI n.offices)), x.back, x.els⟩ := by
  unfold orderOf
  rw [h0, h1, h2]
  have : n.homes.getD ((k1 : Int)).toNat 0 = hd := by rw [← h3]; unfold nth; rfl
  rw [this]
theorem insAll_succ (l : List Int) (x : Int) : insAll (l ++ [x]) = insI (insAll l) x := by unfold insAll; rw [List.foldl_append]; rfl
theorem insAll_len (l : List Int) : (insAll l).length = l.length := by rw [insAll_eq]; exact (sortI_perm l).length_eq
def ResolvedPost (n : NamesD) (x : WishD) (w : World) (e : Ending) (w' : World) : Prop :=
  ∃ vb, e = .returned (orderV vb (orderOf n x)) ∧ Below w.heap.size w w' ∧ OwnInts w.heap.size w' vb (orderOf n x).against ∧ okO (orderOf n x)

set_option maxHeartbeats 8000000 in
set_option maxRecDepth 100000 in
theorem resolved_any (B : Nat) (w : World) (v : NamesV) (n : NamesD) (va : Value) (x : WishD) (hB : B ≤ w.heap.size) (hv : IsNames B w v n) (hx : IsStrs B w va x.against) (hok : okW x) (hc : checkN n = 0) (hkn : knownB n x = true) (hl : x.against.length ≤ 1000000) :
    Calls Try.prog 29 #[v.agg, wishV va x] w (ResolvedPost n x w) := by
  obtain ⟨n0, n1, n2, n3, n4⟩ := checkN_ok hc
  have hs : n.offices.length ≤ 1000000 ∧ n.people.length ≤ 1000000 ∧ n.classes.length ≤ 1000000 := by
    unfold checkN at hc
    split at hc
    · cases hc
    · rename_i h; simp at h; omega
  unfold knownB at hkn
  simp only [Bool.and_eq_true, decide_eq_true_eq, List.all_eq_true] at hkn
  obtain ⟨⟨⟨hka, hk0⟩, hk1⟩, hk2⟩ := hkn
  obtain ⟨i0, hi0⟩ : ∃ k : Nat, idxI n.offices x.frm = (k : Int) := ⟨_, (Int.toNat_of_nonneg hk0).symm⟩
  obtain ⟨k1, hi1⟩ : ∃ k : Nat, idxI n.people x.to = (k : Int) := ⟨_, (Int.toNat_of_nonneg hk1).symm⟩
  obtain ⟨i2, hi2⟩ : ∃ k : Nat, idxI n.classes x.cls = (k : Int) := ⟨_, (Int.toNat_of_nonneg hk2).symm⟩
  have hl0 := idxI_lt (l := n.offices) (s := x.frm)
  have hl1 := idxI_lt (l := n.people) (s := x.to)
  have hl2 := idxI_lt (l := n.classes) (s := x.cls)
  have hk1l : k1 < n.homes.length := by omega
  obtain ⟨vo, vp, vc, vh⟩ := v
  obtain ⟨ao, co, e, ho1, ho2, ho3⟩ := hv.o.form
  simp only at e; subst e
  obtain ⟨ap, cp, e, hp1, hp2, hp3⟩ := hv.p.form
  simp only at e; subst e
  obtain ⟨ac, cc, e, hc1, hc2, hc3⟩ := hv.c.form
  simp only at e; subst e
  obtain ⟨bh, oh, ch, ⟨ah, e, hh1, hh2, hh4⟩, hh3, hh5, hh6⟩ := id hv.h
  simp only at e; subst e
  obtain ⟨aa, ca, e, ha1, ha2, ha3⟩ := hx.form
  subst e
  obtain ⟨bh2, oh2, rfl, bb2, gh0, glh⟩ := IsInts.cellK hv.h hk1l
  obtain ⟨hd, hhd⟩ : ∃ z, nth n.homes k1 = z := ⟨_, rfl⟩
  have HOF := Lib.hid (orderOf_eq hi0 hi1 hi2 hhd)
  have HOK : Hid (∀ l : List Int, okO ⟨i0, k1, hd, i2, x.after, x.by_, x.crowd, x.pay, l, x.back, x.els⟩) := Lib.hid (fun l => by
    obtain ⟨_, _, _, _, q4, q5, q6, q7, q8⟩ := hok
    rw [hhd] at glh
    refine ⟨?_, ?_, glh, ?_, q4, q5, q6, q7, q8⟩
    · unfold I64; show _ ≤ (i0 : Int) ∧ (i0 : Int) ≤ _; omega
    · unfold I64; show _ ≤ (k1 : Int) ∧ (k1 : Int) ≤ _; omega
    · unfold I64; show _ ≤ (i2 : Int) ∧ (i2 : Int) ≤ _; omega)
  obtain ⟨b0, hb0⟩ : ∃ b, w.heap.size = b := ⟨_, rfl⟩
  have hB0 : B ≤ b0 := by omega
  obtain ⟨W1, hW1⟩ : ∃ W, ((w.alloc (.cells #[.slice ao n.offices.length co, .slice ap n.people.length cp, .slice ac n.classes.length cc, .slice (some ⟨bh2, oh2, none⟩) n.homes.length ch] 25)).alloc (.cells (wishC (.slice aa x.against.length ca) x).toArray 41)).alloc (.cells #[.int .i64 0, .int .i64 0, .int .i64 0, .int .i64 0, .int .i64 0, .int .i64 0, .int .i64 0, .int .i64 0, .slice none 0 0, .bool false, .int .i64 0] 38) = W := ⟨_, rfl⟩
  have HB1 : Hid (Below w.heap.size w W1) := Lib.hid (by rw [← hW1]; exact ((box_below' w _).alloc (by simp) _).alloc (by simp; omega) _)
  have HN1 : Hid (Box W1 b0 #[.slice ao n.offices.length co, .slice ap n.people.length cp, .slice ac n.classes.length cc, .slice (some ⟨bh2, oh2, none⟩) n.homes.length ch]) := Lib.hid (by rw [← hW1, ← hb0]; exact ((Box.new _ _ _).alloc _).alloc _)
  have HX1 : Hid (Box W1 (b0 + 1) (wishC (.slice aa x.against.length ca) x).toArray) := Lib.hid (by
    rw [← hW1, ← hb0]
    have := Box.new (w.alloc (.cells #[.slice ao n.offices.length co, .slice ap n.people.length cp, .slice ac n.classes.length cc, .slice (some ⟨bh2, oh2, none⟩) n.homes.length ch] 25)) (wishC (.slice aa x.against.length ca) x).toArray 41
    rw [World.size_alloc] at this
    exact this.alloc _)
  have HR1 : Hid (CellsN W1 (b0 + 1 + 1) #[.int .i64 0, .int .i64 0, .int .i64 0, .int .i64 0, .int .i64 0, .int .i64 0, .int .i64 0, .int .i64 0, .slice none 0 0, .bool false, .int .i64 0]) := Lib.hid (by
    rw [← hW1, ← hb0]
    have := CellsN.new ((w.alloc (.cells #[.slice ao n.offices.length co, .slice ap n.people.length cp, .slice ac n.classes.length cc, .slice (some ⟨bh2, oh2, none⟩) n.homes.length ch] 25)).alloc (.cells (wishC (.slice aa x.against.length ca) x).toArray 41)) #[.int .i64 0, .int .i64 0, .int .i64 0, .int .i64 0, .int .i64 0, .int .i64 0, .int .i64 0, .int .i64 0, .slice none 0 0, .bool false, .int .i64 0] 38
    rw [World.size_alloc, World.size_alloc] at this
    exact this)
  have HSZ : Hid (W1.heap.size = b0 + 1 + 1 + 1) := Lib.hid (by rw [← hW1, ← hb0]; simp)
  have HV1 := Lib.hid (hv.below HB1.out hB)
  have HA1 := Lib.hid (hx.below strK HB1.out hB)
  have gh : W1.cell? ⟨bh2, oh2 + k1, none⟩ = some (.int .i64 hd) := by rw [← hhd]; exact (HB1.out.cell (p := ⟨bh2, oh2 + k1, none⟩) (by show bh2 < _; omega)).trans gh0
  have HGH := Lib.hid gh
  have HKA := Lib.hid hka
  have HS := Lib.hid hs
  have HW1 := Lib.hid hW1
  have HB0 := Lib.hid hb0
  have HBH := Lib.hid bb2
  have hk1i : (k1 : Int) < (n.homes.length : Int) := by omega
  have hk0i : (0 : Int) ≤ (k1 : Int) := by omega
  clear hv hx hW1 hh5 hh6 hh4 n0 n1 n2 n3 n4 hs hka hk0 hk1 hk2 hl0 hl1 hl2 gh gh0 glh hhd hok hc bb2
  have HI0 : Hid (∀ W, Below W1.heap.size W1 W → Calls Try.prog 41 #[.slice ao n.offices.length co, strV x.frm] W fun e w' => e = .returned (.int .i64 i0) ∧ w' = W) := Lib.hid fun W hW => by
    have := rindex_any B W (.slice ao n.offices.length co) n.offices x.frm (HV1.out.o.below strK hW (by rw [HSZ.out]; omega))
    rwa [hi0] at this
  have HI1 : Hid (∀ W, Below W1.heap.size W1 W → Calls Try.prog 41 #[.slice ap n.people.length cp, strV x.to] W fun e w' => e = .returned (.int .i64 k1) ∧ w' = W) := Lib.hid fun W hW => by
    have := rindex_any B W (.slice ap n.people.length cp) n.people x.to (HV1.out.p.below strK hW (by rw [HSZ.out]; omega))
    rwa [hi1] at this
  have HI2 : Hid (∀ W, Below W1.heap.size W1 W → Calls Try.prog 41 #[.slice ac n.classes.length cc, strV x.cls] W fun e w' => e = .returned (.int .i64 i2) ∧ w' = W) := Lib.hid fun W hW => by
    have := rindex_any B W (.slice ac n.classes.length cc) n.classes x.cls (HV1.out.c.below strK hW (by rw [HSZ.out]; omega))
    rwa [hi2] at this
  clear hi0 hi1 hi2
  unfold NamesV.agg wishV wishC
  unfold wishC at HW1
  go_enter Try.func29, Try.ntmps29
  go_upto_region 1 with fail
  rw [HW1.out]
  try rw [hb0]
  have HKP : Hid (∀ W, Below W1.heap.size W1 W → W.cell? ⟨b0, 0, none⟩ = some (.slice ao n.offices.length co) ∧ W.cell? ⟨b0, 1, none⟩ = some (.slice ap n.people.length cp) ∧ W.cell? ⟨b0, 2, none⟩ = some (.slice ac n.classes.length cc) ∧ W.cell? ⟨b0 + 1, 1, none⟩ = some (strV x.frm) ∧ W.cell? ⟨b0 + 1, 2, none⟩ = some (strV x.to) ∧ W.cell? ⟨b0 + 1, 3, none⟩ = some (strV x.cls)) := Lib.hid fun W hW => by
    have hy := (HN1.out.ext hW).2
    have hz := (HX1.out.ext hW).2
    exact ⟨hy 0, hy 1, hy 2, hz 1, hz 2, hz 3⟩
  obtain ⟨WA, hWA⟩ : ∃ W, (W1.alloc (.cells #[.int .i64 0, .int .i64 0, .int .i64 0, .int .i64 0, .int .i64 0, .int .i64 0, .int .i64 0, .int .i64 0, .slice none 0 0, .bool false, .int .i64 0] 38)).drew = W := ⟨_, rfl⟩
  obtain ⟨WS, hWS⟩ : ∃ W, (((((((((((WA.setCell ⟨b0 + 1 + 1 + 1, 0, none⟩ (.int .i64 i0)).setCell ⟨b0 + 1 + 1 + 1, 1, none⟩ (.int .i64 k1)).setCell ⟨b0 + 1 + 1 + 1, 2, none⟩ (.int .i64 0)).setCell ⟨b0 + 1 + 1 + 1, 3, none⟩ (.int .i64 i2)).setCell ⟨b0 + 1 + 1 + 1, 4, none⟩ (.int .i64 0)).setCell ⟨b0 + 1 + 1 + 1, 5, none⟩ (.int .i64 0)).setCell ⟨b0 + 1 + 1 + 1, 6, none⟩ (.int .i64 0)).setCell ⟨b0 + 1 + 1 + 1, 7, none⟩ (.int .i64 0)).setCell ⟨b0 + 1 + 1 + 1, 8, none⟩ (.slice none 0 0)).setCell ⟨b0 + 1 + 1 + 1, 9, none⟩ (.bool false)).setCell ⟨b0 + 1 + 1 + 1, 10, none⟩ (.int .i64 0)) = W := ⟨_, rfl⟩
  have HBA : Hid (Below W1.heap.size W1 WA) := Lib.hid (by rw [← hWA]; exact ((Below.refl _ _).alloc (Nat.le_refl _) _).drew)
  have HBS : Hid (Below W1.heap.size W1 WS) := Lib.hid (by
    rw [← hWS]
    repeat (with_reducible refine Below.setCell ?_ ?_ _)
    all_goals first | exact HBA.out | (rw [HSZ.out]; exact Nat.le_refl _))
  have HCA : Hid (CellsN WA (b0 + 1 + 1 + 1) #[.int .i64 0, .int .i64 0, .int .i64 0, .int .i64 0, .int .i64 0, .int .i64 0, .int .i64 0, .int .i64 0, .slice none 0 0, .bool false, .int .i64 0]) := Lib.hid (by
    have h := CellsN.drewL (CellsN.new W1 #[.int .i64 0, .int .i64 0, .int .i64 0, .int .i64 0, .int .i64 0, .int .i64 0, .int .i64 0, .int .i64 0, .slice none 0 0, .bool false, .int .i64 0] 38)
    rw [hWA, HSZ.out] at h
    exact h)
  have HCS : Hid (CellsN WS (b0 + 1 + 1 + 1) #[.int .i64 i0, .int .i64 k1, .int .i64 0, .int .i64 i2, .int .i64 0, .int .i64 0, .int .i64 0, .int .i64 0, .slice none 0 0, .bool false, .int .i64 0]) := Lib.hid (by
    have h := (((((((((((HCA.out.set 0 (.int .i64 i0)).set 1 (.int .i64 k1)).set 2 (.int .i64 0)).set 3 (.int .i64 i2)).set 4 (.int .i64 0)).set 5 (.int .i64 0)).set 6 (.int .i64 0)).set 7 (.int .i64 0)).set 8 (.slice none 0 0)).set 9 (.bool false)).set 10 (.int .i64 0))
    simp only [List.setIfInBounds_toArray, List.set_cons_zero, List.set_cons_succ] at h
    rwa [hWS] at h)
  have HWA : Hid ((W1.alloc (.cells #[.int .i64 0, .int .i64 0, .int .i64 0, .int .i64 0, .int .i64 0, .int .i64 0, .int .i64 0, .int .i64 0, .slice none 0 0, .bool false, .int .i64 0] 38)).drew = WA) := Lib.hid hWA
  have HWS : Hid ((((((((((((WA.setCell ⟨b0 + 1 + 1 + 1, 0, none⟩ (.int .i64 i0)).setCell ⟨b0 + 1 + 1 + 1, 1, none⟩ (.int .i64 k1)).setCell ⟨b0 + 1 + 1 + 1, 2, none⟩ (.int .i64 0)).setCell ⟨b0 + 1 + 1 + 1, 3, none⟩ (.int .i64 i2)).setCell ⟨b0 + 1 + 1 + 1, 4, none⟩ (.int .i64 0)).setCell ⟨b0 + 1 + 1 + 1, 5, none⟩ (.int .i64 0)).setCell ⟨b0 + 1 + 1 + 1, 6, none⟩ (.int .i64 0)).setCell ⟨b0 + 1 + 1 + 1, 7, none⟩ (.int .i64 0)).setCell ⟨b0 + 1 + 1 + 1, 8, none⟩ (.slice none 0 0)).setCell ⟨b0 + 1 + 1 + 1, 9, none⟩ (.bool false)).setCell ⟨b0 + 1 + 1 + 1, 10, none⟩ (.int .i64 0)) = WS) := Lib.hid hWS
  clear hWA hWS
  obtain ⟨V, hV⟩ : ∃ V : List (Option Value), V = [some (.pointer (some ⟨b0, 0, none⟩)), some (.slice ao n.offices.length co), some (.pointer (some ⟨b0 + 1, 1, none⟩)), some (strV x.frm), some (.int .i64 i0), some (.pointer (some ⟨b0, 1, none⟩)), some (.slice ap n.people.length cp), some (.pointer (some ⟨b0 + 1, 2, none⟩)), some (strV x.to), some (.int .i64 k1), some (.pointer (some ⟨b0, 2, none⟩)), some (.slice ac n.classes.length cc), some (.pointer (some ⟨b0 + 1, 3, none⟩)), some (strV x.cls), some (.int .i64 i2), some (.agg #[.int .i64 i0, .int .i64 k1, .int .i64 0, .int .i64 i2, .int .i64 0, .int .i64 0, .int .i64 0, .int .i64 0, .slice none 0 0, .bool false, .int .i64 0]), some (.pointer (some ⟨b0 + 1 + 1 + 1, 0, none⟩)), none] := ⟨_, rfl⟩
  have HVV := Lib.hid hV
  clear hV
  refine wp_region_V [some 7, some 8, some 9, some 10, some 11, some 12, some 13, some 14, some 15, some 16, some 17, some 18, some 19, some 20, some 21, some 22, some 5, none] (fun L w' xs => ValsAt V L xs ∧ (Below W1.heap.size W1 w' ∧ ((L 17 = false ∧ w' = if L 16 = true then WA else W1.drew) ∨ (L 17 = true ∧ L 16 = true ∧ w' = WS)))) (by kernel_rfl) (by kernel_rfl) (by rfl) (by rfl) (by rfl) ?_ ?_ ?_
  focus
    exact fun xs => ⟨ValsAt.none _ _, (Below.refl _ _).drew, Or.inl ⟨rfl, rfl⟩⟩
  focus
    refine ⟨?_, ?_, ?_, ?_, ?_, ?_, ?_, ?_, ?_, ?_, ?_, ?_, ?_, ?_, ?_, ?_, ?_, ?_, trivial⟩
    all_goals
      intro L a' w' xs hi hd hf hJ K hK
      obtain ⟨hv, hb, hw⟩ := hJ
      have HF := Lib.hid hf
      have HVA := Lib.hid hv
      have HLI := Lib.hid hi
      clear hf hv hi
    focus
      clear hd
      obtain ⟨ρ, hρ⟩ : ∃ ρ, a'.eval = ρ := ⟨_, rfl⟩
      have hcst : ∀ v, ρ (.const v) = v := fun v => (congrFun hρ (.const v)).symm
      have l2 : ρ (.tmp 2) = .pointer (some ⟨b0, 0, none⟩) := (congrFun hρ (.tmp 2)).symm.trans (HF.out.lo 2 rfl)
      rw [if_pos (by simp [Region.wanted])]
      unfold Oper.wp
      rw [hρ]
      clear hρ
      go_simp
      exact hK.out _ _ ⟨HVA.out.set (i := 0) (by rw [HVV.out]; rfl), hb, by rw [upd_ne (by decide), upd_ne (by decide)]; exact hw⟩
    focus
      obtain ⟨d0, _⟩ := hd
      obtain ⟨ρ, hρ⟩ : ∃ ρ, a'.eval = ρ := ⟨_, rfl⟩
      have hcst : ∀ v, ρ (.const v) = v := fun v => (congrFun hρ (.const v)).symm
      have v0 : ρ (.tmp 7) = .pointer (some ⟨b0, 0, none⟩) := (congrFun hρ (.tmp 7)).symm.trans ((HF.out.ev 0 rfl d0).trans (HVA.out 0 _ (by rw [HVV.out]; rfl) d0))
      obtain ⟨m0, m1, m2, x1, x2, x3⟩ := HKP.out _ hb
      rw [if_pos (by simp [Region.wanted])]
      unfold Oper.wp
      rw [hρ]
      clear hρ
      go_simp
      exact hK.out _ _ ⟨HVA.out.set (i := 1) (by rw [HVV.out]; rfl), hb, by rw [upd_ne (by decide), upd_ne (by decide)]; exact hw⟩
    focus
      clear hd
      obtain ⟨ρ, hρ⟩ : ∃ ρ, a'.eval = ρ := ⟨_, rfl⟩
      have hcst : ∀ v, ρ (.const v) = v := fun v => (congrFun hρ (.const v)).symm
      have l3 : ρ (.tmp 3) = .pointer (some ⟨b0 + 1, 0, none⟩) := (congrFun hρ (.tmp 3)).symm.trans (HF.out.lo 3 rfl)
      rw [if_pos (by simp [Region.wanted])]
      unfold Oper.wp
      rw [hρ]
      clear hρ
      go_simp
      exact hK.out _ _ ⟨HVA.out.set (i := 2) (by rw [HVV.out]; rfl), hb, by rw [upd_ne (by decide), upd_ne (by decide)]; exact hw⟩
    focus
      obtain ⟨d2, _⟩ := hd
      obtain ⟨ρ, hρ⟩ : ∃ ρ, a'.eval = ρ := ⟨_, rfl⟩
      have hcst : ∀ v, ρ (.const v) = v := fun v => (congrFun hρ (.const v)).symm
      have v2 : ρ (.tmp 9) = .pointer (some ⟨b0 + 1, 1, none⟩) := (congrFun hρ (.tmp 9)).symm.trans ((HF.out.ev 2 rfl d2).trans (HVA.out 2 _ (by rw [HVV.out]; rfl) d2))
      obtain ⟨m0, m1, m2, x1, x2, x3⟩ := HKP.out _ hb
      rw [if_pos (by simp [Region.wanted])]
      unfold Oper.wp
      rw [hρ]
      clear hρ
      go_simp
      exact hK.out _ _ ⟨HVA.out.set (i := 3) (by rw [HVV.out]; rfl), hb, by rw [upd_ne (by decide), upd_ne (by decide)]; exact hw⟩
    focus
      obtain ⟨d1, d3, _⟩ := hd
      obtain ⟨ρ, hρ⟩ : ∃ ρ, a'.eval = ρ := ⟨_, rfl⟩
      have hcst : ∀ v, ρ (.const v) = v := fun v => (congrFun hρ (.const v)).symm
      have hfun : ∀ k, ρ (.func k) = .func (.func k) #[] #[] := fun k => (congrFun hρ (.func k)).symm
      have v1 : ρ (.tmp 8) = .slice ao n.offices.length co := (congrFun hρ (.tmp 8)).symm.trans ((HF.out.ev 1 rfl d1).trans (HVA.out 1 _ (by rw [HVV.out]; rfl) d1))
      have v3 : ρ (.tmp 10) = strV x.frm := (congrFun hρ (.tmp 10)).symm.trans ((HF.out.ev 3 rfl d3).trans (HVA.out 3 _ (by rw [HVV.out]; rfl) d3))
      rw [if_pos (by simp [Region.wanted])]
      unfold Oper.wp
      rw [hρ]
      clear hρ
      go_simp
      go_at_call 41
      refine (HI0.out w' hb).mono ?_
      rintro e w5 ⟨rfl, rfl⟩
      exact hK.out _ _ ⟨HVA.out.set (i := 4) (by rw [HVV.out]; rfl), hb, by rw [upd_ne (by decide), upd_ne (by decide)]; exact hw⟩
    focus
      clear hd
      obtain ⟨ρ, hρ⟩ : ∃ ρ, a'.eval = ρ := ⟨_, rfl⟩
      have hcst : ∀ v, ρ (.const v) = v := fun v => (congrFun hρ (.const v)).symm
      have l2 : ρ (.tmp 2) = .pointer (some ⟨b0, 0, none⟩) := (congrFun hρ (.tmp 2)).symm.trans (HF.out.lo 2 rfl)
      rw [if_pos (by simp [Region.wanted])]
      unfold Oper.wp
      rw [hρ]
      clear hρ
      go_simp
      exact hK.out _ _ ⟨HVA.out.set (i := 5) (by rw [HVV.out]; rfl), hb, by rw [upd_ne (by decide), upd_ne (by decide)]; exact hw⟩
    focus
      obtain ⟨d5, _⟩ := hd
      obtain ⟨ρ, hρ⟩ : ∃ ρ, a'.eval = ρ := ⟨_, rfl⟩
      have hcst : ∀ v, ρ (.const v) = v := fun v => (congrFun hρ (.const v)).symm
      have v5 : ρ (.tmp 12) = .pointer (some ⟨b0, 1, none⟩) := (congrFun hρ (.tmp 12)).symm.trans ((HF.out.ev 5 rfl d5).trans (HVA.out 5 _ (by rw [HVV.out]; rfl) d5))
      obtain ⟨m0, m1, m2, x1, x2, x3⟩ := HKP.out _ hb
      rw [if_pos (by simp [Region.wanted])]
      unfold Oper.wp
      rw [hρ]
      clear hρ
      go_simp
      exact hK.out _ _ ⟨HVA.out.set (i := 6) (by rw [HVV.out]; rfl), hb, by rw [upd_ne (by decide), upd_ne (by decide)]; exact hw⟩
    focus
      clear hd
      obtain ⟨ρ, hρ⟩ : ∃ ρ, a'.eval = ρ := ⟨_, rfl⟩
      have hcst : ∀ v, ρ (.const v) = v := fun v => (congrFun hρ (.const v)).symm
      have l3 : ρ (.tmp 3) = .pointer (some ⟨b0 + 1, 0, none⟩) := (congrFun hρ (.tmp 3)).symm.trans (HF.out.lo 3 rfl)
      rw [if_pos (by simp [Region.wanted])]
      unfold Oper.wp
      rw [hρ]
      clear hρ
      go_simp
      exact hK.out _ _ ⟨HVA.out.set (i := 7) (by rw [HVV.out]; rfl), hb, by rw [upd_ne (by decide), upd_ne (by decide)]; exact hw⟩
    focus
      obtain ⟨d7, _⟩ := hd
      obtain ⟨ρ, hρ⟩ : ∃ ρ, a'.eval = ρ := ⟨_, rfl⟩
      have hcst : ∀ v, ρ (.const v) = v := fun v => (congrFun hρ (.const v)).symm
      have v7 : ρ (.tmp 14) = .pointer (some ⟨b0 + 1, 2, none⟩) := (congrFun hρ (.tmp 14)).symm.trans ((HF.out.ev 7 rfl d7).trans (HVA.out 7 _ (by rw [HVV.out]; rfl) d7))
      obtain ⟨m0, m1, m2, x1, x2, x3⟩ := HKP.out _ hb
      rw [if_pos (by simp [Region.wanted])]
      unfold Oper.wp
      rw [hρ]
      clear hρ
      go_simp
      exact hK.out _ _ ⟨HVA.out.set (i := 8) (by rw [HVV.out]; rfl), hb, by rw [upd_ne (by decide), upd_ne (by decide)]; exact hw⟩
    focus
      obtain ⟨d6, d8, d4, _⟩ := hd
      obtain ⟨ρ, hρ⟩ : ∃ ρ, a'.eval = ρ := ⟨_, rfl⟩
      have hcst : ∀ v, ρ (.const v) = v := fun v => (congrFun hρ (.const v)).symm
      have hfun : ∀ k, ρ (.func k) = .func (.func k) #[] #[] := fun k => (congrFun hρ (.func k)).symm
      have v6 : ρ (.tmp 13) = .slice ap n.people.length cp := (congrFun hρ (.tmp 13)).symm.trans ((HF.out.ev 6 rfl d6).trans (HVA.out 6 _ (by rw [HVV.out]; rfl) d6))
      have v8 : ρ (.tmp 15) = strV x.to := (congrFun hρ (.tmp 15)).symm.trans ((HF.out.ev 8 rfl d8).trans (HVA.out 8 _ (by rw [HVV.out]; rfl) d8))
      rw [if_pos (by simp [Region.wanted])]
      unfold Oper.wp
      rw [hρ]
      clear hρ
      go_simp
      go_at_call 41
      refine (HI1.out w' hb).mono ?_
      rintro e w5 ⟨rfl, rfl⟩
      exact hK.out _ _ ⟨HVA.out.set (i := 9) (by rw [HVV.out]; rfl), hb, by rw [upd_ne (by decide), upd_ne (by decide)]; exact hw⟩
    focus
      clear hd
      obtain ⟨ρ, hρ⟩ : ∃ ρ, a'.eval = ρ := ⟨_, rfl⟩
      have hcst : ∀ v, ρ (.const v) = v := fun v => (congrFun hρ (.const v)).symm
      have l2 : ρ (.tmp 2) = .pointer (some ⟨b0, 0, none⟩) := (congrFun hρ (.tmp 2)).symm.trans (HF.out.lo 2 rfl)
      rw [if_pos (by simp [Region.wanted])]
      unfold Oper.wp
      rw [hρ]
      clear hρ
      go_simp
      exact hK.out _ _ ⟨HVA.out.set (i := 10) (by rw [HVV.out]; rfl), hb, by rw [upd_ne (by decide), upd_ne (by decide)]; exact hw⟩
    focus
      obtain ⟨d10, _⟩ := hd
      obtain ⟨ρ, hρ⟩ : ∃ ρ, a'.eval = ρ := ⟨_, rfl⟩
      have hcst : ∀ v, ρ (.const v) = v := fun v => (congrFun hρ (.const v)).symm
      have v10 : ρ (.tmp 17) = .pointer (some ⟨b0, 2, none⟩) := (congrFun hρ (.tmp 17)).symm.trans ((HF.out.ev 10 rfl d10).trans (HVA.out 10 _ (by rw [HVV.out]; rfl) d10))
      obtain ⟨m0, m1, m2, x1, x2, x3⟩ := HKP.out _ hb
      rw [if_pos (by simp [Region.wanted])]
      unfold Oper.wp
      rw [hρ]
      clear hρ
      go_simp
      exact hK.out _ _ ⟨HVA.out.set (i := 11) (by rw [HVV.out]; rfl), hb, by rw [upd_ne (by decide), upd_ne (by decide)]; exact hw⟩
    focus
      clear hd
      obtain ⟨ρ, hρ⟩ : ∃ ρ, a'.eval = ρ := ⟨_, rfl⟩
      have hcst : ∀ v, ρ (.const v) = v := fun v => (congrFun hρ (.const v)).symm
      have l3 : ρ (.tmp 3) = .pointer (some ⟨b0 + 1, 0, none⟩) := (congrFun hρ (.tmp 3)).symm.trans (HF.out.lo 3 rfl)
      rw [if_pos (by simp [Region.wanted])]
      unfold Oper.wp
      rw [hρ]
      clear hρ
      go_simp
      exact hK.out _ _ ⟨HVA.out.set (i := 12) (by rw [HVV.out]; rfl), hb, by rw [upd_ne (by decide), upd_ne (by decide)]; exact hw⟩
    focus
      obtain ⟨d12, _⟩ := hd
      obtain ⟨ρ, hρ⟩ : ∃ ρ, a'.eval = ρ := ⟨_, rfl⟩
      have hcst : ∀ v, ρ (.const v) = v := fun v => (congrFun hρ (.const v)).symm
      have v12 : ρ (.tmp 19) = .pointer (some ⟨b0 + 1, 3, none⟩) := (congrFun hρ (.tmp 19)).symm.trans ((HF.out.ev 12 rfl d12).trans (HVA.out 12 _ (by rw [HVV.out]; rfl) d12))
      obtain ⟨m0, m1, m2, x1, x2, x3⟩ := HKP.out _ hb
      rw [if_pos (by simp [Region.wanted])]
      unfold Oper.wp
      rw [hρ]
      clear hρ
      go_simp
      exact hK.out _ _ ⟨HVA.out.set (i := 13) (by rw [HVV.out]; rfl), hb, by rw [upd_ne (by decide), upd_ne (by decide)]; exact hw⟩
    focus
      obtain ⟨d11, d13, d9, _⟩ := hd
      obtain ⟨ρ, hρ⟩ : ∃ ρ, a'.eval = ρ := ⟨_, rfl⟩
      have hcst : ∀ v, ρ (.const v) = v := fun v => (congrFun hρ (.const v)).symm
      have hfun : ∀ k, ρ (.func k) = .func (.func k) #[] #[] := fun k => (congrFun hρ (.func k)).symm
      have v11 : ρ (.tmp 18) = .slice ac n.classes.length cc := (congrFun hρ (.tmp 18)).symm.trans ((HF.out.ev 11 rfl d11).trans (HVA.out 11 _ (by rw [HVV.out]; rfl) d11))
      have v13 : ρ (.tmp 20) = strV x.cls := (congrFun hρ (.tmp 20)).symm.trans ((HF.out.ev 13 rfl d13).trans (HVA.out 13 _ (by rw [HVV.out]; rfl) d13))
      rw [if_pos (by simp [Region.wanted])]
      unfold Oper.wp
      rw [hρ]
      clear hρ
      go_simp
      go_at_call 41
      refine (HI2.out w' hb).mono ?_
      rintro e w5 ⟨rfl, rfl⟩
      exact hK.out _ _ ⟨HVA.out.set (i := 14) (by rw [HVV.out]; rfl), hb, by rw [upd_ne (by decide), upd_ne (by decide)]; exact hw⟩
    focus
      obtain ⟨d4, d9, d14, _⟩ := hd
      obtain ⟨ρ, hρ⟩ : ∃ ρ, a'.eval = ρ := ⟨_, rfl⟩
      have hcst : ∀ v, ρ (.const v) = v := fun v => (congrFun hρ (.const v)).symm
      have v4 : ρ (.tmp 11) = .int .i64 i0 := (congrFun hρ (.tmp 11)).symm.trans ((HF.out.ev 4 rfl d4).trans (HVA.out 4 _ (by rw [HVV.out]; rfl) d4))
      have v9 : ρ (.tmp 16) = .int .i64 k1 := (congrFun hρ (.tmp 16)).symm.trans ((HF.out.ev 9 rfl d9).trans (HVA.out 9 _ (by rw [HVV.out]; rfl) d9))
      have v14 : ρ (.tmp 21) = .int .i64 i2 := (congrFun hρ (.tmp 21)).symm.trans ((HF.out.ev 14 rfl d14).trans (HVA.out 14 _ (by rw [HVV.out]; rfl) d14))
      rw [if_pos (by simp [Region.wanted])]
      unfold Oper.wp
      rw [hρ]
      clear hρ
      go_simp
      exact hK.out _ _ ⟨HVA.out.set (i := 15) (by rw [HVV.out]; rfl), hb, by rw [upd_ne (by decide), upd_ne (by decide)]; exact hw⟩
    focus
      clear hd
      obtain ⟨ρ, hρ⟩ : ∃ ρ, a'.eval = ρ := ⟨_, rfl⟩
      have hcst : ∀ v, ρ (.const v) = v := fun v => (congrFun hρ (.const v)).symm
      rw [if_pos (by simp [Region.wanted])]
      unfold Oper.wp
      rw [hρ]
      clear hρ
      rcases hw with ⟨h17, hw⟩ | ⟨_, h16, _⟩
      rotate_left
      · rw [HLI.out] at h16; cases h16
      rw [if_neg (by rw [HLI.out]; decide)] at hw
      subst hw
      go_simp
      rw [HWA.out]
      exact hK.out _ _ ⟨HVA.out.set (i := 16) (by rw [HVV.out, HSZ.out]; rfl), HBA.out, Or.inl ⟨by rw [upd_ne (by decide)]; exact h17, by rw [upd_self]; rfl⟩⟩
    focus
      obtain ⟨d16, d15, d14, d0, d1, d2, d3, d4, d5, d6, d7, d8, d9, d10, d11, d12, d13, _, _, _, _⟩ := hd
      obtain ⟨ρ, hρ⟩ : ∃ ρ, a'.eval = ρ := ⟨_, rfl⟩
      have hcst : ∀ v, ρ (.const v) = v := fun v => (congrFun hρ (.const v)).symm
      have v16 : ρ (.tmp 5) = .pointer (some ⟨b0 + 1 + 1 + 1, 0, none⟩) := (congrFun hρ (.tmp 5)).symm.trans ((HF.out.ev 16 rfl d16).trans (HVA.out 16 _ (by rw [HVV.out]; rfl) d16))
      have v15 : ρ (.tmp 22) = .agg #[.int .i64 i0, .int .i64 k1, .int .i64 0, .int .i64 i2, .int .i64 0, .int .i64 0, .int .i64 0, .int .i64 0, .slice none 0 0, .bool false, .int .i64 0] := (congrFun hρ (.tmp 22)).symm.trans ((HF.out.ev 15 rfl d15).trans (HVA.out 15 _ (by rw [HVV.out]; rfl) d15))
      rw [if_pos (by simp [Region.wanted])]
      unfold Oper.wp
      rw [hρ]
      clear hρ
      rcases hw with ⟨h17, hw⟩ | ⟨h17, _⟩
      rotate_left
      · rw [HLI.out] at h17; cases h17
      rw [if_pos d16] at hw
      subst hw
      have c0 := HCA.out.cell 0
      have f0 := HCA.out.free 0
      have c1 := HCA.out.cell 1
      have f1 := HCA.out.free 1
      have c2 := HCA.out.cell 2
      have f2 := HCA.out.free 2
      have c3 := HCA.out.cell 3
      have f3 := HCA.out.free 3
      have c4 := HCA.out.cell 4
      have f4 := HCA.out.free 4
      have c5 := HCA.out.cell 5
      have f5 := HCA.out.free 5
      have c6 := HCA.out.cell 6
      have f6 := HCA.out.free 6
      have c7 := HCA.out.cell 7
      have f7 := HCA.out.free 7
      have c8 := HCA.out.cell 8
      have f8 := HCA.out.free 8
      have c9 := HCA.out.cell 9
      have f9 := HCA.out.free 9
      have c10 := HCA.out.cell 10
      have f10 := HCA.out.free 10
      simp at c0 c1 c2 c3 c4 c5 c6 c7 c8 c9 c10
      go_simp
      rw [HWS.out]
      exact hK.out _ _ ⟨HVA.out.free (i := 17) (by rw [HVV.out]; rfl) undef, HBS.out, Or.inr ⟨upd_self _ _, by rw [upd_ne (by decide)]; exact d16, rfl⟩⟩
  focus
    intro L w' xs hL hJ
    obtain ⟨hv, hb, hw⟩ := hJ
    have e0 : xs 0 = .pointer (some ⟨b0, 0, none⟩) := hv 0 _ (by rw [HVV.out]; rfl) (hL 0 (by decide))
    have e1 : xs 1 = .slice ao n.offices.length co := hv 1 _ (by rw [HVV.out]; rfl) (hL 1 (by decide))
    have e2 : xs 2 = .pointer (some ⟨b0 + 1, 1, none⟩) := hv 2 _ (by rw [HVV.out]; rfl) (hL 2 (by decide))
    have e3 : xs 3 = strV x.frm := hv 3 _ (by rw [HVV.out]; rfl) (hL 3 (by decide))
    have e4 : xs 4 = .int .i64 i0 := hv 4 _ (by rw [HVV.out]; rfl) (hL 4 (by decide))
    have e5 : xs 5 = .pointer (some ⟨b0, 1, none⟩) := hv 5 _ (by rw [HVV.out]; rfl) (hL 5 (by decide))
    have e6 : xs 6 = .slice ap n.people.length cp := hv 6 _ (by rw [HVV.out]; rfl) (hL 6 (by decide))
    have e7 : xs 7 = .pointer (some ⟨b0 + 1, 2, none⟩) := hv 7 _ (by rw [HVV.out]; rfl) (hL 7 (by decide))
    have e8 : xs 8 = strV x.to := hv 8 _ (by rw [HVV.out]; rfl) (hL 8 (by decide))
    have e9 : xs 9 = .int .i64 k1 := hv 9 _ (by rw [HVV.out]; rfl) (hL 9 (by decide))
    have e10 : xs 10 = .pointer (some ⟨b0, 2, none⟩) := hv 10 _ (by rw [HVV.out]; rfl) (hL 10 (by decide))
    have e11 : xs 11 = .slice ac n.classes.length cc := hv 11 _ (by rw [HVV.out]; rfl) (hL 11 (by decide))
    have e12 : xs 12 = .pointer (some ⟨b0 + 1, 3, none⟩) := hv 12 _ (by rw [HVV.out]; rfl) (hL 12 (by decide))
    have e13 : xs 13 = strV x.cls := hv 13 _ (by rw [HVV.out]; rfl) (hL 13 (by decide))
    have e14 : xs 14 = .int .i64 i2 := hv 14 _ (by rw [HVV.out]; rfl) (hL 14 (by decide))
    have e15 : xs 15 = .agg #[.int .i64 i0, .int .i64 k1, .int .i64 0, .int .i64 i2, .int .i64 0, .int .i64 0, .int .i64 0, .int .i64 0, .slice none 0 0, .bool false, .int .i64 0] := hv 15 _ (by rw [HVV.out]; rfl) (hL 15 (by decide))
    have e16 : xs 16 = .pointer (some ⟨b0 + 1 + 1 + 1, 0, none⟩) := hv 16 _ (by rw [HVV.out]; rfl) (hL 16 (by decide))
    simp only [putGo, Act.put, List.setIfInBounds_toArray, List.set_cons_zero, List.set_cons_succ, e0, e1, e2, e3, e4, e5, e6, e7, e8, e9, e10, e11, e12, e13, e14, e15, e16]
    clear hv e0 e1 e2 e3 e4 e5 e6 e7 e8 e9 e10 e11 e12 e13 e14 e15 e16
    rcases hw with ⟨h17, _⟩ | ⟨_, _, hw⟩
    · rw [hL 17 (by decide)] at h17; cases h17
    rw [hw]
    clear hw hb
    have HNS := Lib.hid (HN1.out.ext HBS.out)
    have HXS := Lib.hid (HX1.out.ext HBS.out)
    have HRS := Lib.hid (HR1.out.ext HBS.out)
    have gh := (HBS.out.cell (p := ⟨bh2, oh2 + k1, none⟩) (by have := HBH.out; have := HSZ.out; show bh2 < _; omega)).trans HGH.out
    obtain ⟨_, nr⟩ := HNS.out
    obtain ⟨_, xr⟩ := HXS.out
    have m3 := nr 3
    have x4 := xr 4
    have x5 := xr 5
    have x6 := xr 6
    have x7 := xr 7
    have x9 := xr 9
    have x10 := xr 10
    simp [wishC] at m3 x4 x5 x6 x7 x9 x10
    clear nr xr
    have c0 := HCS.out.cell 0
    have f0 := HCS.out.free 0
    have c1 := HCS.out.cell 1
    have f1 := HCS.out.free 1
    have c2 := HCS.out.cell 2
    have f2 := HCS.out.free 2
    have c3 := HCS.out.cell 3
    have f3 := HCS.out.free 3
    have c4 := HCS.out.cell 4
    have f4 := HCS.out.free 4
    have c5 := HCS.out.cell 5
    have f5 := HCS.out.free 5
    have c6 := HCS.out.cell 6
    have f6 := HCS.out.free 6
    have c7 := HCS.out.cell 7
    have f7 := HCS.out.free 7
    have c8 := HCS.out.cell 8
    have f8 := HCS.out.free 8
    have c9 := HCS.out.cell 9
    have f9 := HCS.out.free 9
    have c10 := HCS.out.cell 10
    have f10 := HCS.out.free 10
    simp at c0 c1 c2 c3 c4 c5 c6 c7 c8 c9 c10
    obtain ⟨W2, hW2⟩ : ∃ W, (((((((WS.setCell ⟨b0 + 1 + 1 + 1, 2, none⟩ (.int .i64 hd)).setCell ⟨b0 + 1 + 1 + 1, 4, none⟩ (.int .i64 x.after)).setCell ⟨b0 + 1 + 1 + 1, 5, none⟩ (.int .i64 x.by_)).setCell ⟨b0 + 1 + 1 + 1, 6, none⟩ (.int .i64 x.crowd)).setCell ⟨b0 + 1 + 1 + 1, 7, none⟩ (.int .i64 x.pay)).setCell ⟨b0 + 1 + 1 + 1, 9, none⟩ (.bool x.back)).setCell ⟨b0 + 1 + 1 + 1, 10, none⟩ (.int .i64 x.els)) = W := ⟨_, rfl⟩
    have HC2 : Hid (CellsN W2 (b0 + 1 + 1 + 1) #[.int .i64 i0, .int .i64 k1, .int .i64 hd, .int .i64 i2, .int .i64 x.after, .int .i64 x.by_, .int .i64 x.crowd, .int .i64 x.pay, .slice none 0 0, .bool x.back, .int .i64 x.els]) := Lib.hid (by
      have h := (((((((HCS.out.set 2 (.int .i64 hd)).set 4 (.int .i64 x.after)).set 5 (.int .i64 x.by_)).set 6 (.int .i64 x.crowd)).set 7 (.int .i64 x.pay)).set 9 (.bool x.back)).set 10 (.int .i64 x.els))
      simp only [List.setIfInBounds_toArray, List.set_cons_zero, List.set_cons_succ] at h
      rwa [hW2] at h)
    have HB2 : Hid (Below W1.heap.size W1 W2) := Lib.hid (by
      rw [← hW2]
      repeat (with_reducible refine Below.setCell ?_ ?_ _)
      all_goals first | exact HBS.out | (rw [HSZ.out]; exact Nat.le_refl _))
    have HW2 := Lib.hid hW2
    clear hW2
    go_upto_region 9 with fail
    rw [HW2.out]
    clear c0 f0 c1 f1 c2 f2 c3 f3 c4 f4 c5 f5 c6 f6 c7 f7 c8 f8 c9 f9 c10 f10 m3 x4 x5 x6 x7 x9 x10 gh HW2 HCS HCA HWA HWS HBS HBA HRS HNS HXS
    go_wp2
    go_loopw [6] (fun iv wr => ∃ k va, k ≤ x.against.length ∧ iv = .int .i64 k ∧ CellsN wr (b0 + 1 + 1 + 1) #[.int .i64 i0, .int .i64 k1, .int .i64 hd, .int .i64 i2, .int .i64 x.after, .int .i64 x.by_, .int .i64 x.crowd, .int .i64 x.pay, va, .bool x.back, .int .i64 x.els] ∧ OwnInts (b0 + 1 + 1 + 1 + 1) wr va (insAll ((x.against.take k).map (idxI n.offices))) ∧ Below W1.heap.size W1 wr) (fun iv _ => x.against.length - (intOf iv).toNat)
    case atStart => exact ⟨0, _, by omega, rfl, HC2.out, OwnInts.nil _ _, HB2.out⟩
    case round =>
      obtain ⟨k, vq, hk, rfl, hcr, hor, hbr⟩ := hrel
      obtain ⟨av, nv, cv, rfl⟩ := hor.form'
      have HCR := Lib.hid hcr
      have HOR := Lib.hid hor
      have HBR := Lib.hid hbr
      have hlr := hcr.lt
      have HNR := Lib.hid (HN1.out.ext hbr)
      have HXR := Lib.hid (HX1.out.ext hbr)
      have HRR := Lib.hid (HR1.out.ext hbr)
      clear hcr hor hbr
      obtain ⟨_, nr⟩ := HNR.out
      obtain ⟨_, xr⟩ := HXR.out
      have m0 := nr 0
      have x8 := xr 8
      simp [wishC] at m0 x8
      have c8 := HCR.out.cell 8
      simp at c8
      have HM0 := Lib.hid m0
      have HX8 := Lib.hid x8
      have HC8 := Lib.hid c8
      clear nr xr m0 c8
      by_cases hlt : k < x.against.length
      · obtain ⟨b, off, rfl, bb, g0, gl⟩ := IsStrs.cell (HA1.out.below strK HBR.out (by rw [HSZ.out]; omega)) hlt
        have HTK : Hid (x.against.take (k + 1) = x.against.take k ++ [strAt x.against k]) := Lib.hid (by rw [List.take_succ_eq_append_getElem hlt, strAt_get hlt])
        have hik0 := HKA.out (strAt x.against k) (by rw [strAt_get hlt]; exact List.getElem_mem hlt)
        obtain ⟨sk, hsk⟩ : ∃ s, strAt x.against k = s := ⟨_, rfl⟩
        rw [hsk] at g0 gl HTK hik0
        clear hsk
        have hikl := idxI_lt (l := n.offices) (s := sk)
        obtain ⟨ik, hik⟩ : ∃ z, idxI n.offices sk = z := ⟨_, rfl⟩
        have HIK := Lib.hid hik
        rw [hik] at hik0 hikl
        have HZK : Hid (I64 ik) := Lib.hid (by have := HS.out.1; unfold I64; omega)
        have HG0 := Lib.hid g0
        have HIX : Hid (∀ W, Below wr.heap.size wr W → Calls Try.prog 41 #[.slice ao n.offices.length co, strV sk] W fun e w' => e = .returned (.int .i64 ik) ∧ w' = W) := Lib.hid fun W hW => by
          have := rindex_any B W (.slice ao n.offices.length co) n.offices sk (HV1.out.o.below strK (HBR.out.trans (hW.mono HBR.out.size)) (by rw [HSZ.out]; omega))
          rwa [hik] at this
        obtain ⟨pl, hpl⟩ : ∃ pl, insAll ((x.against.take k).map (idxI n.offices)) = pl := ⟨_, rfl⟩
        have HPL := Lib.hid hpl
        have hpll : pl.length ≤ 1000000 := by rw [← hpl, insAll_len]; simp; omega
        rw [hpl] at HOR
        clear hik hpl hik0 hikl g0
        have HSO : Hid (∀ W, Below wr.heap.size wr W → Calls Try.prog 42 #[.slice av nv cv, .int .i64 ik] W fun e w' => ∃ v', e = .returned v' ∧ OwnInts W.heap.size w' v' (insI pl ik) ∧ Below W.heap.size W w') := Lib.hid fun W hW =>
          sorted_any wr.heap.size W (.slice av nv cv) pl ik hW.size (HOR.out.isInts.below hW (Nat.le_refl _)) HZK.out hpll
        have HKP : Hid (∀ W, Below wr.heap.size wr W → W.cell? ⟨b0 + 1 + 1 + 1, 8, none⟩ = some (.slice av nv cv) ∧ W.cell? ⟨b0, 0, none⟩ = some (.slice ao n.offices.length co) ∧ W.cell? ⟨b0 + 1, 8, none⟩ = some (.slice (some ⟨b, off, none⟩) x.against.length ca) ∧ W.cell? ⟨b, off + k, none⟩ = some (strV sk)) := Lib.hid fun W hW =>
          ⟨(hW.cell (p := ⟨b0 + 1 + 1 + 1, 8, none⟩) (by show b0 + 1 + 1 + 1 < _; omega)).trans HC8.out, (hW.cell (p := ⟨b0, 0, none⟩) (by show b0 < _; omega)).trans HM0.out, (hW.cell (p := ⟨b0 + 1, 8, none⟩) (by show b0 + 1 < _; omega)).trans HX8.out, (hW.cell (p := ⟨b, off + k, none⟩) (by show b < _; omega)).trans HG0.out⟩
        go_wp2
        clear x8
        obtain ⟨V, hV⟩ : ∃ V : List (Option Value), V = [some (.pointer (some ⟨b0 + 1 + 1 + 1, 8, none⟩)), some (.slice av nv cv), some (.pointer (some ⟨b0, 0, none⟩)), some (.slice ao n.offices.length co), some (.pointer (some ⟨b0 + 1, 8, none⟩)), some (.slice (some ⟨b, off, none⟩) x.against.length ca), some (.int .i64 k), some (.pointer (some ⟨b, off + k, none⟩)), some (strV sk), some (.int .i64 ik), none, some (.pointer (some ⟨b0 + 1 + 1 + 1, 8, none⟩)), none] := ⟨_, rfl⟩
        have HVV := Lib.hid hV
        clear hV
        refine wp_region_V [some 55, some 56, some 57, some 58, some 59, some 60, some 61, some 62, some 63, some 64, some 65, some 66, none] (fun L w' xs => ValsAt V L xs ∧ ((L 12 = false ∧ Below wr.heap.size wr w' ∧ (L 10 = true → OwnInts wr.heap.size w' (xs 10) (insI pl ik))) ∨ (L 12 = true ∧ (∀ j, j < 12 → L j = true) ∧ ∃ w8 a n c, w' = w8.setCell ⟨b0 + 1 + 1 + 1, 8, none⟩ (.slice a n c) ∧ Below wr.heap.size wr w8 ∧ OwnInts wr.heap.size w8 (.slice a n c) (insI pl ik)))) (by kernel_rfl) (by kernel_rfl) (by rfl) (by rfl) (by rfl) ?_ ?_ ?_
        focus
          exact fun xs => ⟨ValsAt.none _ _, Or.inl ⟨rfl, (Below.refl _ _).drew, fun h => by cases h⟩⟩
        focus
          refine ⟨?_, ?_, ?_, ?_, ?_, ?_, ?_, ?_, ?_, ?_, ?_, ?_, ?_, trivial⟩
          all_goals
            intro L a' w' xs hi hd hf hJ K hK
            obtain ⟨hv, hw⟩ := hJ
            have HF := Lib.hid hf
            have HVA := Lib.hid hv
            have HLI := Lib.hid hi
            clear hf hv hi
          focus
            clear hd
            obtain ⟨ρ, hρ⟩ : ∃ ρ, a'.eval = ρ := ⟨_, rfl⟩
            have hcst : ∀ v, ρ (.const v) = v := fun v => (congrFun hρ (.const v)).symm
            have l5 : ρ (.tmp 5) = .pointer (some ⟨b0 + 1 + 1 + 1, 0, none⟩) := (congrFun hρ (.tmp 5)).symm.trans (HF.out.lo 5 rfl)
            rw [if_pos (by simp [Region.wanted])]
            unfold Oper.wp
            rw [hρ]
            clear hρ
            rcases hw with ⟨h12, hb, ho⟩ | ⟨_, h, _⟩
            rotate_left
            · have := h 0 (by decide); rw [HLI.out] at this; cases this
            go_simp
            exact hK.out _ _ ⟨HVA.out.set (i := 0) (by rw [HVV.out]; rfl), Or.inl ⟨by rw [upd_ne (by decide)]; exact h12, hb, by rw [upd_ne (by decide), updV_ne (by decide)]; exact ho⟩⟩
          focus
            obtain ⟨d0, _⟩ := hd
            obtain ⟨ρ, hρ⟩ : ∃ ρ, a'.eval = ρ := ⟨_, rfl⟩
            have hcst : ∀ v, ρ (.const v) = v := fun v => (congrFun hρ (.const v)).symm
            have v0 : ρ (.tmp 55) = .pointer (some ⟨b0 + 1 + 1 + 1, 8, none⟩) := (congrFun hρ (.tmp 55)).symm.trans ((HF.out.ev 0 rfl d0).trans (HVA.out 0 _ (by rw [HVV.out]; rfl) d0))
            rw [if_pos (by simp [Region.wanted])]
            unfold Oper.wp
            rw [hρ]
            clear hρ
            rcases hw with ⟨h12, hb, ho⟩ | ⟨_, h, _⟩
            rotate_left
            · have := h 1 (by decide); rw [HLI.out] at this; cases this
            obtain ⟨c8, m0, x8, g0⟩ := HKP.out _ hb
            go_simp
            exact hK.out _ _ ⟨HVA.out.set (i := 1) (by rw [HVV.out]; rfl), Or.inl ⟨by rw [upd_ne (by decide)]; exact h12, hb, by rw [upd_ne (by decide), updV_ne (by decide)]; exact ho⟩⟩
          focus
            clear hd
            obtain ⟨ρ, hρ⟩ : ∃ ρ, a'.eval = ρ := ⟨_, rfl⟩
            have hcst : ∀ v, ρ (.const v) = v := fun v => (congrFun hρ (.const v)).symm
            have l2 : ρ (.tmp 2) = .pointer (some ⟨b0, 0, none⟩) := (congrFun hρ (.tmp 2)).symm.trans (HF.out.lo 2 rfl)
            rw [if_pos (by simp [Region.wanted])]
            unfold Oper.wp
            rw [hρ]
            clear hρ
            rcases hw with ⟨h12, hb, ho⟩ | ⟨_, h, _⟩
            rotate_left
            · have := h 2 (by decide); rw [HLI.out] at this; cases this
            go_simp
            exact hK.out _ _ ⟨HVA.out.set (i := 2) (by rw [HVV.out]; rfl), Or.inl ⟨by rw [upd_ne (by decide)]; exact h12, hb, by rw [upd_ne (by decide), updV_ne (by decide)]; exact ho⟩⟩
          focus
            obtain ⟨d2, _⟩ := hd
            obtain ⟨ρ, hρ⟩ : ∃ ρ, a'.eval = ρ := ⟨_, rfl⟩
            have hcst : ∀ v, ρ (.const v) = v := fun v => (congrFun hρ (.const v)).symm
            have v2 : ρ (.tmp 57) = .pointer (some ⟨b0, 0, none⟩) := (congrFun hρ (.tmp 57)).symm.trans ((HF.out.ev 2 rfl d2).trans (HVA.out 2 _ (by rw [HVV.out]; rfl) d2))
            rw [if_pos (by simp [Region.wanted])]
            unfold Oper.wp
            rw [hρ]
            clear hρ
            rcases hw with ⟨h12, hb, ho⟩ | ⟨_, h, _⟩
            rotate_left
            · have := h 3 (by decide); rw [HLI.out] at this; cases this
            obtain ⟨c8, m0, x8, g0⟩ := HKP.out _ hb
            go_simp
            exact hK.out _ _ ⟨HVA.out.set (i := 3) (by rw [HVV.out]; rfl), Or.inl ⟨by rw [upd_ne (by decide)]; exact h12, hb, by rw [upd_ne (by decide), updV_ne (by decide)]; exact ho⟩⟩
          focus
            clear hd
            obtain ⟨ρ, hρ⟩ : ∃ ρ, a'.eval = ρ := ⟨_, rfl⟩
            have hcst : ∀ v, ρ (.const v) = v := fun v => (congrFun hρ (.const v)).symm
            have l3 : ρ (.tmp 3) = .pointer (some ⟨b0 + 1, 0, none⟩) := (congrFun hρ (.tmp 3)).symm.trans (HF.out.lo 3 rfl)
            rw [if_pos (by simp [Region.wanted])]
            unfold Oper.wp
            rw [hρ]
            clear hρ
            rcases hw with ⟨h12, hb, ho⟩ | ⟨_, h, _⟩
            rotate_left
            · have := h 4 (by decide); rw [HLI.out] at this; cases this
            go_simp
            exact hK.out _ _ ⟨HVA.out.set (i := 4) (by rw [HVV.out]; rfl), Or.inl ⟨by rw [upd_ne (by decide)]; exact h12, hb, by rw [upd_ne (by decide), updV_ne (by decide)]; exact ho⟩⟩
          focus
            obtain ⟨d4, _⟩ := hd
            obtain ⟨ρ, hρ⟩ : ∃ ρ, a'.eval = ρ := ⟨_, rfl⟩
            have hcst : ∀ v, ρ (.const v) = v := fun v => (congrFun hρ (.const v)).symm
            have v4 : ρ (.tmp 59) = .pointer (some ⟨b0 + 1, 8, none⟩) := (congrFun hρ (.tmp 59)).symm.trans ((HF.out.ev 4 rfl d4).trans (HVA.out 4 _ (by rw [HVV.out]; rfl) d4))
            rw [if_pos (by simp [Region.wanted])]
            unfold Oper.wp
            rw [hρ]
            clear hρ
            rcases hw with ⟨h12, hb, ho⟩ | ⟨_, h, _⟩
            rotate_left
            · have := h 5 (by decide); rw [HLI.out] at this; cases this
            obtain ⟨c8, m0, x8, g0⟩ := HKP.out _ hb
            go_simp
            exact hK.out _ _ ⟨HVA.out.set (i := 5) (by rw [HVV.out]; rfl), Or.inl ⟨by rw [upd_ne (by decide)]; exact h12, hb, by rw [upd_ne (by decide), updV_ne (by decide)]; exact ho⟩⟩
          focus
            clear hd
            obtain ⟨ρ, hρ⟩ : ∃ ρ, a'.eval = ρ := ⟨_, rfl⟩
            have hcst : ∀ v, ρ (.const v) = v := fun v => (congrFun hρ (.const v)).symm
            have l6 : ρ (.tmp 6) = .int .i64 k := (congrFun hρ (.tmp 6)).symm.trans (HF.out.lo 6 rfl)
            rw [if_pos (by simp [Region.wanted])]
            unfold Oper.wp
            rw [hρ]
            clear hρ
            rcases hw with ⟨h12, hb, ho⟩ | ⟨_, h, _⟩
            rotate_left
            · have := h 6 (by decide); rw [HLI.out] at this; cases this
            go_simp
            exact hK.out _ _ ⟨HVA.out.set (i := 6) (by rw [HVV.out]; rfl), Or.inl ⟨by rw [upd_ne (by decide)]; exact h12, hb, by rw [upd_ne (by decide), updV_ne (by decide)]; exact ho⟩⟩
          focus
            obtain ⟨d5, d6, _⟩ := hd
            obtain ⟨ρ, hρ⟩ : ∃ ρ, a'.eval = ρ := ⟨_, rfl⟩
            have hcst : ∀ v, ρ (.const v) = v := fun v => (congrFun hρ (.const v)).symm
            have v5 : ρ (.tmp 60) = .slice (some ⟨b, off, none⟩) x.against.length ca := (congrFun hρ (.tmp 60)).symm.trans ((HF.out.ev 5 rfl d5).trans (HVA.out 5 _ (by rw [HVV.out]; rfl) d5))
            have v6 : ρ (.tmp 61) = .int .i64 k := (congrFun hρ (.tmp 61)).symm.trans ((HF.out.ev 6 rfl d6).trans (HVA.out 6 _ (by rw [HVV.out]; rfl) d6))
            rw [if_pos (by simp [Region.wanted])]
            unfold Oper.wp
            rw [hρ]
            clear hρ
            rcases hw with ⟨h12, hb, ho⟩ | ⟨_, h, _⟩
            rotate_left
            · have := h 7 (by decide); rw [HLI.out] at this; cases this
            go_simp
            exact hK.out _ _ ⟨HVA.out.set (i := 7) (by rw [HVV.out]; rfl), Or.inl ⟨by rw [upd_ne (by decide)]; exact h12, hb, by rw [upd_ne (by decide), updV_ne (by decide)]; exact ho⟩⟩
          focus
            obtain ⟨d7, _⟩ := hd
            obtain ⟨ρ, hρ⟩ : ∃ ρ, a'.eval = ρ := ⟨_, rfl⟩
            have hcst : ∀ v, ρ (.const v) = v := fun v => (congrFun hρ (.const v)).symm
            have v7 : ρ (.tmp 62) = .pointer (some ⟨b, off + k, none⟩) := (congrFun hρ (.tmp 62)).symm.trans ((HF.out.ev 7 rfl d7).trans (HVA.out 7 _ (by rw [HVV.out]; rfl) d7))
            rw [if_pos (by simp [Region.wanted])]
            unfold Oper.wp
            rw [hρ]
            clear hρ
            rcases hw with ⟨h12, hb, ho⟩ | ⟨_, h, _⟩
            rotate_left
            · have := h 8 (by decide); rw [HLI.out] at this; cases this
            obtain ⟨c8, m0, x8, g0⟩ := HKP.out _ hb
            go_simp
            exact hK.out _ _ ⟨HVA.out.set (i := 8) (by rw [HVV.out]; rfl), Or.inl ⟨by rw [upd_ne (by decide)]; exact h12, hb, by rw [upd_ne (by decide), updV_ne (by decide)]; exact ho⟩⟩
          focus
            obtain ⟨d3, d8, _⟩ := hd
            obtain ⟨ρ, hρ⟩ : ∃ ρ, a'.eval = ρ := ⟨_, rfl⟩
            have hcst : ∀ v, ρ (.const v) = v := fun v => (congrFun hρ (.const v)).symm
            have hfun : ∀ k, ρ (.func k) = .func (.func k) #[] #[] := fun k => (congrFun hρ (.func k)).symm
            have v3 : ρ (.tmp 58) = .slice ao n.offices.length co := (congrFun hρ (.tmp 58)).symm.trans ((HF.out.ev 3 rfl d3).trans (HVA.out 3 _ (by rw [HVV.out]; rfl) d3))
            have v8 : ρ (.tmp 63) = strV sk := (congrFun hρ (.tmp 63)).symm.trans ((HF.out.ev 8 rfl d8).trans (HVA.out 8 _ (by rw [HVV.out]; rfl) d8))
            rw [if_pos (by simp [Region.wanted])]
            unfold Oper.wp
            rw [hρ]
            clear hρ
            rcases hw with ⟨h12, hb, ho⟩ | ⟨_, h, _⟩
            rotate_left
            · have := h 9 (by decide); rw [HLI.out] at this; cases this
            go_simp
            go_at_call 41
            refine (HIX.out _ hb).mono ?_
            rintro e w5 ⟨rfl, rfl⟩
            exact hK.out _ _ ⟨HVA.out.set (i := 9) (by rw [HVV.out]; rfl), Or.inl ⟨by rw [upd_ne (by decide)]; exact h12, hb, by rw [upd_ne (by decide), updV_ne (by decide)]; exact ho⟩⟩
          focus
            obtain ⟨d1, d9, _, _⟩ := hd
            obtain ⟨ρ, hρ⟩ : ∃ ρ, a'.eval = ρ := ⟨_, rfl⟩
            have hcst : ∀ v, ρ (.const v) = v := fun v => (congrFun hρ (.const v)).symm
            have hfun : ∀ k, ρ (.func k) = .func (.func k) #[] #[] := fun k => (congrFun hρ (.func k)).symm
            have v1 : ρ (.tmp 56) = .slice av nv cv := (congrFun hρ (.tmp 56)).symm.trans ((HF.out.ev 1 rfl d1).trans (HVA.out 1 _ (by rw [HVV.out]; rfl) d1))
            have v9 : ρ (.tmp 64) = .int .i64 ik := (congrFun hρ (.tmp 64)).symm.trans ((HF.out.ev 9 rfl d9).trans (HVA.out 9 _ (by rw [HVV.out]; rfl) d9))
            rw [if_pos (by simp [Region.wanted])]
            unfold Oper.wp
            rw [hρ]
            clear hρ
            rcases hw with ⟨h12, hb, ho⟩ | ⟨_, h, _⟩
            rotate_left
            · have := h 10 (by decide); rw [HLI.out] at this; cases this
            go_simp
            go_at_call 42
            refine (HSO.out _ hb).mono ?_
            rintro e w5 ⟨v5, rfl, ho5, hb5⟩
            exact hK.out _ _ ⟨HVA.out.free (i := 10) (by rw [HVV.out]; rfl) _, Or.inl ⟨by rw [upd_ne (by decide)]; exact h12, hb.trans (hb5.mono hb.size), fun _ => by rw [updV_self]; exact ho5.mono hb.size⟩⟩
          focus
            obtain ⟨d0, d1, d2, d3, d4, d5, d6, d7, d8, d9, d10, _⟩ := hd
            obtain ⟨ρ, hρ⟩ : ∃ ρ, a'.eval = ρ := ⟨_, rfl⟩
            have hcst : ∀ v, ρ (.const v) = v := fun v => (congrFun hρ (.const v)).symm
            have l5 : ρ (.tmp 5) = .pointer (some ⟨b0 + 1 + 1 + 1, 0, none⟩) := (congrFun hρ (.tmp 5)).symm.trans (HF.out.lo 5 rfl)
            rw [if_pos (by simp [Region.wanted])]
            unfold Oper.wp
            rw [hρ]
            clear hρ
            rcases hw with ⟨h12, hb, ho⟩ | ⟨_, h, _⟩
            rotate_left
            · have := h 11 (by decide); rw [HLI.out] at this; cases this
            go_simp
            exact hK.out _ _ ⟨HVA.out.set (i := 11) (by rw [HVV.out]; rfl), Or.inl ⟨by rw [upd_ne (by decide)]; exact h12, hb, by rw [upd_ne (by decide), updV_ne (by decide)]; exact ho⟩⟩
          focus
            obtain ⟨d11, d10, _, d0, d1, d2, d3, d4, d5, d6, d7, d8, d9, _, _⟩ := hd
            obtain ⟨ρ, hρ⟩ : ∃ ρ, a'.eval = ρ := ⟨_, rfl⟩
            have hcst : ∀ v, ρ (.const v) = v := fun v => (congrFun hρ (.const v)).symm
            have v11 : ρ (.tmp 66) = .pointer (some ⟨b0 + 1 + 1 + 1, 8, none⟩) := (congrFun hρ (.tmp 66)).symm.trans ((HF.out.ev 11 rfl d11).trans (HVA.out 11 _ (by rw [HVV.out]; rfl) d11))
            have v10 : ρ (.tmp 65) = xs 10 := (congrFun hρ (.tmp 65)).symm.trans (HF.out.ev 10 rfl d10)
            rw [if_pos (by simp [Region.wanted])]
            unfold Oper.wp
            rw [hρ]
            clear hρ
            rcases hw with ⟨h12, hb, ho⟩ | ⟨h12, _⟩
            rotate_left
            · rw [HLI.out] at h12; cases h12
            have ho := ho d10
            obtain ⟨a8, n8, c8', e8⟩ := ho.form'
            rw [e8] at ho v10
            have hcc := HCR.out.below hb (by omega)
            have c8 := hcc.cell 8
            have f8 := hcc.free 8
            simp at c8
            go_simp
            exact hK.out _ _ ⟨HVA.out.free (i := 12) (by rw [HVV.out]; rfl) undef, Or.inr ⟨upd_self _ _, fun j hj => by
              rw [upd_ne (by omega)]
              match j, hj with
              | 0, _ => exact d0
              | 1, _ => exact d1
              | 2, _ => exact d2
              | 3, _ => exact d3
              | 4, _ => exact d4
              | 5, _ => exact d5
              | 6, _ => exact d6
              | 7, _ => exact d7
              | 8, _ => exact d8
              | 9, _ => exact d9
              | 10, _ => exact d10
              | 11, _ => exact d11, w', a8, n8, c8', rfl, hb, ho⟩⟩
        focus
          intro L w' xs hL hJ
          obtain ⟨hv, hw⟩ := hJ
          have e0 : xs 0 = .pointer (some ⟨b0 + 1 + 1 + 1, 8, none⟩) := hv 0 _ (by rw [HVV.out]; rfl) (hL 0 (by decide))
          have e1 : xs 1 = .slice av nv cv := hv 1 _ (by rw [HVV.out]; rfl) (hL 1 (by decide))
          have e2 : xs 2 = .pointer (some ⟨b0, 0, none⟩) := hv 2 _ (by rw [HVV.out]; rfl) (hL 2 (by decide))
          have e3 : xs 3 = .slice ao n.offices.length co := hv 3 _ (by rw [HVV.out]; rfl) (hL 3 (by decide))
          have e4 : xs 4 = .pointer (some ⟨b0 + 1, 8, none⟩) := hv 4 _ (by rw [HVV.out]; rfl) (hL 4 (by decide))
          have e5 : xs 5 = .slice (some ⟨b, off, none⟩) x.against.length ca := hv 5 _ (by rw [HVV.out]; rfl) (hL 5 (by decide))
          have e6 : xs 6 = .int .i64 k := hv 6 _ (by rw [HVV.out]; rfl) (hL 6 (by decide))
          have e7 : xs 7 = .pointer (some ⟨b, off + k, none⟩) := hv 7 _ (by rw [HVV.out]; rfl) (hL 7 (by decide))
          have e8 : xs 8 = strV sk := hv 8 _ (by rw [HVV.out]; rfl) (hL 8 (by decide))
          have e9 : xs 9 = .int .i64 ik := hv 9 _ (by rw [HVV.out]; rfl) (hL 9 (by decide))
          have e11 : xs 11 = .pointer (some ⟨b0 + 1 + 1 + 1, 8, none⟩) := hv 11 _ (by rw [HVV.out]; rfl) (hL 11 (by decide))
          simp only [putGo, Act.put, List.setIfInBounds_toArray, List.set_cons_zero, List.set_cons_succ, e0, e1, e2, e3, e4, e5, e6, e7, e8, e9, e11]
          clear hv e0 e1 e2 e3 e4 e5 e6 e7 e8 e9 e11
          rcases hw with ⟨h12, _⟩ | ⟨_, _, w8, a8, n8, c8, hw, hb8, ho8⟩
          · rw [hL 12 (by decide)] at h12; cases h12
          have HB8 := Lib.hid hb8
          have HO8 := Lib.hid ho8
          have HC9 := Lib.hid ((HCR.out.ext hb8).set 8 (.slice a8 n8 c8))
          have HBX : Hid (Below W1.heap.size W1 w8) := Lib.hid (HBR.out.trans (hb8.mono HBR.out.size))
          subst hw
          clear hb8 ho8
          go_wp2
          go_roundw
          case rel =>
            refine ⟨k + 1, .slice a8 n8 c8, by omega, by go_num, by have h := HC9.out; simp only [List.setIfInBounds_toArray, List.set_cons_zero, List.set_cons_succ] at h; exact h, ?_, HBX.out.setCell (p := ⟨b0 + 1 + 1 + 1, 8, none⟩) (by rw [HSZ.out]; exact Nat.le_refl _) _⟩
            rw [HTK.out, List.map_append, List.map_singleton, insAll_succ, HPL.out, HIK.out]
            exact ((HO8.out.mono (B' := b0 + 1 + 1 + 1 + 1) (by omega)).kept (grown_setCell w8 ⟨b0 + 1 + 1 + 1, 8, none⟩ (.slice a8 n8 c8)) (.inr (fun e => by have := (HO8.out.1.lt (b0 + 1 + 1 + 1) e).1; omega)))
          case measure => simp [intOf]; omega
      · obtain rfl : k = x.against.length := by omega
        have hor := HOR.out
        rw [List.take_length, insAll_eq] at hor
        have HO9 := Lib.hid hor
        clear hor
        have c0 := HCR.out.cell 0
        have r0 := HRR.out.cell 0
        have f0 := HRR.out.free 0
        have c1 := HCR.out.cell 1
        have r1 := HRR.out.cell 1
        have f1 := HRR.out.free 1
        have c2 := HCR.out.cell 2
        have r2 := HRR.out.cell 2
        have f2 := HRR.out.free 2
        have c3 := HCR.out.cell 3
        have r3 := HRR.out.cell 3
        have f3 := HRR.out.free 3
        have c4 := HCR.out.cell 4
        have r4 := HRR.out.cell 4
        have f4 := HRR.out.free 4
        have c5 := HCR.out.cell 5
        have r5 := HRR.out.cell 5
        have f5 := HRR.out.free 5
        have c6 := HCR.out.cell 6
        have r6 := HRR.out.cell 6
        have f6 := HRR.out.free 6
        have c7 := HCR.out.cell 7
        have r7 := HRR.out.cell 7
        have f7 := HRR.out.free 7
        have c8 := HCR.out.cell 8
        have r8 := HRR.out.cell 8
        have f8 := HRR.out.free 8
        have c9 := HCR.out.cell 9
        have r9 := HRR.out.cell 9
        have f9 := HRR.out.free 9
        have c10 := HCR.out.cell 10
        have r10 := HRR.out.cell 10
        have f10 := HRR.out.free 10
        simp at c0 r0 c1 r1 c2 r2 c3 r3 c4 r4 c5 r5 c6 r6 c7 r7 c8 r8 c9 r9 c10 r10
        have hN := (((((((((((HRR.out.set 0 (.int .i64 i0)).set 1 (.int .i64 k1)).set 2 (.int .i64 hd)).set 3 (.int .i64 i2)).set 4 (.int .i64 x.after)).set 5 (.int .i64 x.by_)).set 6 (.int .i64 x.crowd)).set 7 (.int .i64 x.pay)).set 8 (.slice av nv cv)).set 9 (.bool x.back)).set 10 (.int .i64 x.els))
        simp only [List.setIfInBounds_toArray, List.set_cons_zero, List.set_cons_succ] at hN
        have n0 := hN.cell 0
        have n1 := hN.cell 1
        have n2 := hN.cell 2
        have n3 := hN.cell 3
        have n4 := hN.cell 4
        have n5 := hN.cell 5
        have n6 := hN.cell 6
        have n7 := hN.cell 7
        have n8 := hN.cell 8
        have n9 := hN.cell 9
        have n10 := hN.cell 10
        simp at n0 n1 n2 n3 n4 n5 n6 n7 n8 n9 n10
        have N0 := Lib.hid n0
        have N1 := Lib.hid n1
        have N2 := Lib.hid n2
        have N3 := Lib.hid n3
        have N4 := Lib.hid n4
        have N5 := Lib.hid n5
        have N6 := Lib.hid n6
        have N7 := Lib.hid n7
        have N8 := Lib.hid n8
        have N9 := Lib.hid n9
        have N10 := Lib.hid n10
        clear hN n0 n1 n2 n3 n4 n5 n6 n7 n8 n9 n10
        have HBF : Hid (Below w.heap.size w (((((((((((wr.setCell ⟨b0 + 1 + 1, 0, none⟩ (.int .i64 i0)).setCell ⟨b0 + 1 + 1, 1, none⟩ (.int .i64 k1)).setCell ⟨b0 + 1 + 1, 2, none⟩ (.int .i64 hd)).setCell ⟨b0 + 1 + 1, 3, none⟩ (.int .i64 i2)).setCell ⟨b0 + 1 + 1, 4, none⟩ (.int .i64 x.after)).setCell ⟨b0 + 1 + 1, 5, none⟩ (.int .i64 x.by_)).setCell ⟨b0 + 1 + 1, 6, none⟩ (.int .i64 x.crowd)).setCell ⟨b0 + 1 + 1, 7, none⟩ (.int .i64 x.pay)).setCell ⟨b0 + 1 + 1, 8, none⟩ (.slice av nv cv)).setCell ⟨b0 + 1 + 1, 9, none⟩ (.bool x.back)).setCell ⟨b0 + 1 + 1, 10, none⟩ (.int .i64 x.els))) := Lib.hid (by
          repeat (with_reducible refine Below.setCell ?_ ?_ _)
          all_goals first | exact HB1.out.trans (HBR.out.mono HB1.out.size) | (show w.heap.size ≤ b0 + 1 + 1; rw [HB0.out]; omega))
        have HOF2 : Hid (OwnInts w.heap.size (((((((((((wr.setCell ⟨b0 + 1 + 1, 0, none⟩ (.int .i64 i0)).setCell ⟨b0 + 1 + 1, 1, none⟩ (.int .i64 k1)).setCell ⟨b0 + 1 + 1, 2, none⟩ (.int .i64 hd)).setCell ⟨b0 + 1 + 1, 3, none⟩ (.int .i64 i2)).setCell ⟨b0 + 1 + 1, 4, none⟩ (.int .i64 x.after)).setCell ⟨b0 + 1 + 1, 5, none⟩ (.int .i64 x.by_)).setCell ⟨b0 + 1 + 1, 6, none⟩ (.int .i64 x.crowd)).setCell ⟨b0 + 1 + 1, 7, none⟩ (.int .i64 x.pay)).setCell ⟨b0 + 1 + 1, 8, none⟩ (.slice av nv cv)).setCell ⟨b0 + 1 + 1, 9, none⟩ (.bool x.back)).setCell ⟨b0 + 1 + 1, 10, none⟩ (.int .i64 x.els)) (.slice av nv cv) (sortI (x.against.map (idxI n.offices)))) := Lib.hid (by
          refine OwnInts.mono (B := b0 + 1 + 1 + 1 + 1) ?_ (by rw [HB0.out]; omega)
          refine HO9.out.kept (row := some (b0 + 1 + 1)) ?_ (.inr (fun e => by have := (HO9.out.1.lt _ e).1; omega))
          exact (grown_trans (grown_trans (grown_trans (grown_trans (grown_trans (grown_trans (grown_trans (grown_trans (grown_trans (grown_trans (grown_trans (grown_refl _ _) (grown_setCell _ ⟨b0 + 1 + 1, 0, none⟩ _)) (grown_setCell _ ⟨b0 + 1 + 1, 1, none⟩ _)) (grown_setCell _ ⟨b0 + 1 + 1, 2, none⟩ _)) (grown_setCell _ ⟨b0 + 1 + 1, 3, none⟩ _)) (grown_setCell _ ⟨b0 + 1 + 1, 4, none⟩ _)) (grown_setCell _ ⟨b0 + 1 + 1, 5, none⟩ _)) (grown_setCell _ ⟨b0 + 1 + 1, 6, none⟩ _)) (grown_setCell _ ⟨b0 + 1 + 1, 7, none⟩ _)) (grown_setCell _ ⟨b0 + 1 + 1, 8, none⟩ _)) (grown_setCell _ ⟨b0 + 1 + 1, 9, none⟩ _)) (grown_setCell _ ⟨b0 + 1 + 1, 10, none⟩ _)))
        go_wp2
        have n0 := N0.out
        have n1 := N1.out
        have n2 := N2.out
        have n3 := N3.out
        have n4 := N4.out
        have n5 := N5.out
        have n6 := N6.out
        have n7 := N7.out
        have n8 := N8.out
        have n9 := N9.out
        have n10 := N10.out
        refine bodyPost_ret (v := orderV (.slice av nv cv) ⟨i0, k1, hd, i2, x.after, x.by_, x.crowd, x.pay, sortI (x.against.map (idxI n.offices)), x.back, x.els⟩) (by simp [results, Try.results29, go_sem, n0, n1, n2, n3, n4, n5, n6, n7, n8, n9, n10]; rfl) rfl ?_
        exact ⟨.slice av nv cv, by rw [HOF.out], HBF.out, by rw [HOF.out]; exact HOF2.out, by rw [HOF.out]; exact HOK.out _⟩
end Go.Proofs.Ytmfbabmejbppjaa
