/- Layers EW10 EW11 EW12 EW13 EA5 EW14 EW15 EW16 EW17: the walks and the plain laws under the last text, merged and cut to what it uses; nothing is assumed. -/
import Derived.Test.YteiaeaciaglmgaaGcb
set_option linter.unusedVariables false
set_option linter.unusedSimpArgs false
namespace Go.Proofs.Yteiaeaciaglmgaa
open Go.RowKit
set_option maxHeartbeats 4000000 in
set_option maxRecDepth 100000 in
/-- frankingref29.decided -/
theorem decided29_any (B : Nat) (w : World) (aw : Option Addr) (nw cw : Nat) (vP : Value) (part : List Int) (p : Int) (hp : IsInts B w vP part) (hB : B ≤ w.heap.size) (h64 : I64 p) (hlp : part.length ≤ 100000) :
  Calls Try.prog 69 #[.agg #[.slice aw nw cw, vP], .int .i64 p] w fun e w' => ∃ vP', e = .returned (.agg #[.slice aw nw cw, vP']) ∧ IsInts w'.heap.size w' vP' (part ++ [p]) ∧ Below w.heap.size w w' := by
 have HPI := Lib.hid hp
 obtain ⟨ap, cp, rfl⟩ := hp.form
 have HZ : Hid (∀ y ∈ part, I64 y) := Lib.hid (by obtain ⟨_, _, _, _, _, h3, _⟩ := hp; exact h3)
 have H64 := Lib.hid h64
 obtain ⟨hs1, hs2⟩ := h64
 have HLP := Lib.hid hlp
 clear hp hlp
 go_enter Try.func69, Try.ntmps69
 go_upto_region 1 with fail
 refine wp_name (fun W1 hW1 => ?_)
 have HB1 : Hid (Below w.heap.size w W1) := Lib.hid (by rw [hW1]; exact ((box_below' w _).trans ((box_below' _ _).mono (by simp))))
 have HC1 : Hid (CellsN W1 (w.heap.size + 1) #[.slice none 0 0, .slice none 0 0]) := Lib.hid (by
  rw [hW1]
  have h := CellsN.new (w.alloc (.cells #[.slice aw nw cw, .slice ap part.length cp] 82)) #[.slice none 0 0, .slice none 0 0] 82
  rw [World.size_alloc] at h
  exact h)
 have HX1 : Hid (Box W1 w.heap.size #[.slice aw nw cw, .slice ap part.length cp]) := Lib.hid (by rw [hW1]; exact (Box.new w _ _).alloc _)
 have HPX : Hid (∀ W, Below w.heap.size w W → IsInts B W (.slice ap part.length cp) part) := Lib.hid fun W hW => HPI.out.below hW hB
 have HZ1 : Hid (w.heap.size + 1 < W1.heap.size) := Lib.hid HC1.out.lt
 clear hW1
 obtain ⟨V, hV⟩ : ∃ V : List (Option Value), V = [some (.pointer (some ⟨w.heap.size, 0, none⟩)), some (.slice aw nw cw), none, some (.pointer (some ⟨w.heap.size, 1, none⟩)), some (.slice ap part.length cp), none, some (.int .i64 p), none, none, none, none] := ⟨_, rfl⟩
 have HVV := Lib.hid hV
 clear hV
 refine wp_region_V [some 5, some 6, some 7, some 8, some 9, some 10, some 11, some 12, some 13, some 14, none] (fun L w' xs => ValsAt V L xs ∧ (DecR w.heap.size (w.heap.size + 1) w W1 (.slice aw nw cw) part p (L 2) (L 5) (L 7) (L 8) (L 10) (xs 2) (xs 5) (xs 7) (xs 8) w' ∧ (L 9 = true → L 8 = true ∧ xs 9 = .agg #[.slice aw nw cw, xs 8]))) (by kernel_rfl) (by kernel_rfl) (by rfl) (by rfl) (by rfl) ?_ ?_ ?_
 focus
  exact fun xs => ⟨ValsAt.none _ _, (by exact DecR.start HB1.out (by omega) HC1.out 1), (fun e => by cases e)⟩
 focus
  refine ⟨?_, ?_, ?_, ?_, ?_, ?_, ?_, ?_, ?_, ?_, ?_, trivial⟩
  all_goals
   intro L a' w' xs hi hd hf hJ K hK
   obtain ⟨hv, hA, h9⟩ := hJ
   have HF := Lib.hid hf
   have HVA := Lib.hid hv
   have HLI := Lib.hid hi
   clear hf hv hi
  focus
   clear hd
   obtain ⟨ρ, hρ⟩ : ∃ ρ, a'.eval = ρ := ⟨_, rfl⟩
   have hcst : ∀ v, ρ (.const v) = v := fun v => (congrFun hρ (.const v)).symm
   have l2 : ρ (.tmp 2) = .pointer (some ⟨w.heap.size, 0, none⟩) := (congrFun hρ (.tmp 2)).symm.trans (HF.out.lo 2 rfl)
   rw [if_pos (by simp [Region.wanted])]
   unfold Oper.wp
   rw [hρ]
   clear hρ
   go_simp
   exact hK.out _ _ ⟨HVA.out.set (i := 0) (by rw [HVV.out]; rfl), (by simp only [une xs 2 0 rfl, une xs 5 0 rfl, une xs 7 0 rfl, une xs 8 0 rfl, une xs 9 0 rfl]; exact hA), (by simp only [une xs 2 0 rfl, une xs 5 0 rfl, une xs 7 0 rfl, une xs 8 0 rfl, une xs 9 0 rfl]; exact h9)⟩
  focus
   obtain ⟨d0, _⟩ := hd
   obtain ⟨ρ, hρ⟩ : ∃ ρ, a'.eval = ρ := ⟨_, rfl⟩
   have hcst : ∀ v, ρ (.const v) = v := fun v => (congrFun hρ (.const v)).symm
   have v0 : ρ (.tmp 5) = .pointer (some ⟨w.heap.size, 0, none⟩) := (congrFun hρ (.tmp 5)).symm.trans ((HF.out.ev 0 rfl d0).trans (HVA.out 0 _ (by rw [HVV.out]; rfl) d0))
   have m0 := (hA.cell (i := 0) (Nat.lt_trans (Nat.lt_succ_self _) HZ1.out) (by omega)).trans (HX1.out.2 0)
   have m1 := (hA.cell (i := 1) (Nat.lt_trans (Nat.lt_succ_self _) HZ1.out) (by omega)).trans (HX1.out.2 1)
   simp at m0 m1
   rw [if_pos (by simp [Region.wanted])]
   unfold Oper.wp
   rw [hρ]
   clear hρ
   go_simp
   exact hK.out _ _ ⟨HVA.out.set (i := 1) (by rw [HVV.out]; rfl), (by simp only [une xs 2 1 rfl, une xs 5 1 rfl, une xs 7 1 rfl, une xs 8 1 rfl, une xs 9 1 rfl]; exact hA), (by simp only [une xs 2 1 rfl, une xs 5 1 rfl, une xs 7 1 rfl, une xs 8 1 rfl, une xs 9 1 rfl]; exact h9)⟩
  focus
   clear hd
   obtain ⟨ρ, hρ⟩ : ∃ ρ, a'.eval = ρ := ⟨_, rfl⟩
   have hcst : ∀ v, ρ (.const v) = v := fun v => (congrFun hρ (.const v)).symm
   rw [if_pos (by simp [Region.wanted])]
   unfold Oper.wp
   rw [hρ]
   clear hρ
   go_simp
   exact hK.out _ _ ⟨HVA.out.free (i := 2) (by rw [HVV.out]; rfl) _, (by simp only [une xs 5 2 rfl, une xs 7 2 rfl, une xs 8 2 rfl, une xs 9 2 rfl, updV_self]; exact hA.s2 HLI.out rfl), (by simp only [une xs 5 2 rfl, une xs 7 2 rfl, une xs 8 2 rfl, une xs 9 2 rfl, updV_self]; exact h9)⟩
  focus
   clear hd
   obtain ⟨ρ, hρ⟩ : ∃ ρ, a'.eval = ρ := ⟨_, rfl⟩
   have hcst : ∀ v, ρ (.const v) = v := fun v => (congrFun hρ (.const v)).symm
   have l2 : ρ (.tmp 2) = .pointer (some ⟨w.heap.size, 0, none⟩) := (congrFun hρ (.tmp 2)).symm.trans (HF.out.lo 2 rfl)
   rw [if_pos (by simp [Region.wanted])]
   unfold Oper.wp
   rw [hρ]
   clear hρ
   go_simp
   exact hK.out _ _ ⟨HVA.out.set (i := 3) (by rw [HVV.out]; rfl), (by simp only [une xs 2 3 rfl, une xs 5 3 rfl, une xs 7 3 rfl, une xs 8 3 rfl, une xs 9 3 rfl]; exact hA), (by simp only [une xs 2 3 rfl, une xs 5 3 rfl, une xs 7 3 rfl, une xs 8 3 rfl, une xs 9 3 rfl]; exact h9)⟩
  focus
   obtain ⟨d3, _⟩ := hd
   obtain ⟨ρ, hρ⟩ : ∃ ρ, a'.eval = ρ := ⟨_, rfl⟩
   have hcst : ∀ v, ρ (.const v) = v := fun v => (congrFun hρ (.const v)).symm
   have v3 : ρ (.tmp 8) = .pointer (some ⟨w.heap.size, 1, none⟩) := (congrFun hρ (.tmp 8)).symm.trans ((HF.out.ev 3 rfl d3).trans (HVA.out 3 _ (by rw [HVV.out]; rfl) d3))
   have m0 := (hA.cell (i := 0) (Nat.lt_trans (Nat.lt_succ_self _) HZ1.out) (by omega)).trans (HX1.out.2 0)
   have m1 := (hA.cell (i := 1) (Nat.lt_trans (Nat.lt_succ_self _) HZ1.out) (by omega)).trans (HX1.out.2 1)
   simp at m0 m1
   rw [if_pos (by simp [Region.wanted])]
   unfold Oper.wp
   rw [hρ]
   clear hρ
   go_simp
   exact hK.out _ _ ⟨HVA.out.set (i := 4) (by rw [HVV.out]; rfl), (by simp only [une xs 2 4 rfl, une xs 5 4 rfl, une xs 7 4 rfl, une xs 8 4 rfl, une xs 9 4 rfl]; exact hA), (by simp only [une xs 2 4 rfl, une xs 5 4 rfl, une xs 7 4 rfl, une xs 8 4 rfl, une xs 9 4 rfl]; exact h9)⟩
  focus
   obtain ⟨d2, d4, _⟩ := hd
   have v2 : a'.eval (.tmp 7) = xs 2 := HF.out.ev 2 rfl d2
   have v4 : a'.eval (.tmp 9) = .slice ap part.length cp := (HF.out.ev 4 rfl d4).trans (HVA.out 4 _ (by rw [HVV.out]; rfl) d4)
   rw [if_pos (by simp [Region.wanted])]
   obtain ⟨v', w5, y1, y2, y3, y4⟩ := run_append_ints (ty := 25) (ys := part) (hA.h2 d2 HLI.out) (HPX.out _ hA.hb).src HZ.out (by have := HLP.out; simp; omega) hA.sz
   refine wp_of_append w' rfl v2 v4 y1 ?_
   exact hK.out _ _ ⟨HVA.out.free (i := 5) (by rw [HVV.out]; rfl) _, (by simp only [une xs 2 5 rfl, une xs 7 5 rfl, une xs 8 5 rfl, une xs 9 5 rfl, updV_self]; exact hA.s5 HLI.out d2 (by simpa using y2) y3 y4), (by simp only [une xs 2 5 rfl, une xs 7 5 rfl, une xs 8 5 rfl, une xs 9 5 rfl, updV_self]; exact h9)⟩
  focus
   clear hd
   obtain ⟨ρ, hρ⟩ : ∃ ρ, a'.eval = ρ := ⟨_, rfl⟩
   have hcst : ∀ v, ρ (.const v) = v := fun v => (congrFun hρ (.const v)).symm
   have l1 : ρ (.tmp 1) = .int .i64 p := (congrFun hρ (.tmp 1)).symm.trans (HF.out.lo 1 rfl)
   rw [if_pos (by simp [Region.wanted])]
   unfold Oper.wp
   rw [hρ]
   clear hρ
   go_simp
   exact hK.out _ _ ⟨HVA.out.set (i := 6) (by rw [HVV.out]; rfl), (by simp only [une xs 2 6 rfl, une xs 5 6 rfl, une xs 7 6 rfl, une xs 8 6 rfl, une xs 9 6 rfl]; exact hA), (by simp only [une xs 2 6 rfl, une xs 5 6 rfl, une xs 7 6 rfl, une xs 8 6 rfl, une xs 9 6 rfl]; exact h9)⟩
  focus
   obtain ⟨d6, _⟩ := hd
   obtain ⟨ρ, hρ⟩ : ∃ ρ, a'.eval = ρ := ⟨_, rfl⟩
   have hcst : ∀ v, ρ (.const v) = v := fun v => (congrFun hρ (.const v)).symm
   have v6 : ρ (.tmp 11) = .int .i64 p := (congrFun hρ (.tmp 11)).symm.trans ((HF.out.ev 6 rfl d6).trans (HVA.out 6 _ (by rw [HVV.out]; rfl) d6))
   rw [if_pos (by simp [Region.wanted])]
   unfold Oper.wp
   rw [hρ]
   clear hρ
   go_simp
   exact hK.out _ _ ⟨HVA.out.free (i := 7) (by rw [HVV.out]; rfl) _, (by simp only [une xs 2 7 rfl, une xs 5 7 rfl, une xs 8 7 rfl, une xs 9 7 rfl, updV_self]; exact hA.s7 HLI.out rfl), (by simp only [une xs 2 7 rfl, une xs 5 7 rfl, une xs 8 7 rfl, une xs 9 7 rfl, updV_self]; exact h9)⟩
  focus
   obtain ⟨d5, d7, _, _⟩ := hd
   have v5 : a'.eval (.tmp 10) = xs 5 := HF.out.ev 5 rfl d5
   have v7 : a'.eval (.tmp 12) = xs 7 := HF.out.ev 7 rfl d7
   rw [if_pos (by simp [Region.wanted])]
   have hn9 : L 9 = false := by
    cases e : L 9 with
    | false => rfl
    | true => have := (h9 e).1; rw [HLI.out] at this; cases this
   obtain ⟨q, e7, q1, q2, q3, q4⟩ := hA.h7 d7 HLI.out
   rw [e7] at v7
   have hsrc : Src w' 1 (.slice (some ⟨q, 0, none⟩) 1 1) [p].length ([p].map (Value.int .i64)) := src_one (q2.cell 0) rfl
   obtain ⟨v', w5, y1, y2, y3, y4⟩ := run_append_ints (ty := 25) (hA.h5 d5 HLI.out) hsrc (by simpa using H64.out) (by have := HLP.out; simp; omega) hA.sz
   refine wp_of_append w' rfl v5 v7 y1 ?_
   exact hK.out _ _ ⟨HVA.out.free (i := 8) (by rw [HVV.out]; rfl) _, (by simp only [une xs 2 8 rfl, une xs 5 8 rfl, une xs 7 8 rfl, une xs 9 8 rfl, updV_self]; exact hA.s8 HLI.out d5 d7 y2 y3), (by simp only [une xs 2 8 rfl, une xs 5 8 rfl, une xs 7 8 rfl, une xs 9 8 rfl, updV_self]; exact (fun e => by have e9 : L 9 = true := e; rw [hn9] at e9; cases e9))⟩
  focus
   obtain ⟨d1, d8, _⟩ := hd
   obtain ⟨ρ, hρ⟩ : ∃ ρ, a'.eval = ρ := ⟨_, rfl⟩
   have hcst : ∀ v, ρ (.const v) = v := fun v => (congrFun hρ (.const v)).symm
   have v1 : ρ (.tmp 6) = .slice aw nw cw := (congrFun hρ (.tmp 6)).symm.trans ((HF.out.ev 1 rfl d1).trans (HVA.out 1 _ (by rw [HVV.out]; rfl) d1))
   have v8 : ρ (.tmp 13) = xs 8 := (congrFun hρ (.tmp 13)).symm.trans (HF.out.ev 8 rfl d8)
   rw [if_pos (by simp [Region.wanted])]
   unfold Oper.wp
   rw [hρ]
   clear hρ
   obtain ⟨a8, n8, c8, e8⟩ := (hA.h8 d8).form'
   have HE8 := Lib.hid e8
   rw [e8] at v8
   clear e8
   go_simp
   exact hK.out _ _ ⟨HVA.out.free (i := 9) (by rw [HVV.out]; rfl) _, (by simp only [une xs 2 9 rfl, une xs 5 9 rfl, une xs 7 9 rfl, une xs 8 9 rfl, updV_self]; exact hA), (by simp only [une xs 2 9 rfl, une xs 5 9 rfl, une xs 7 9 rfl, une xs 8 9 rfl, updV_self]; exact (fun _ => ⟨d8, by rw [HE8.out]⟩))⟩
  focus
   obtain ⟨d9, d8, d0, d1, d2, d3, d4, d5, d6, d7, _, _, _⟩ := hd
   obtain ⟨ρ, hρ⟩ : ∃ ρ, a'.eval = ρ := ⟨_, rfl⟩
   have hcst : ∀ v, ρ (.const v) = v := fun v => (congrFun hρ (.const v)).symm
   have l4 : ρ (.tmp 4) = .pointer (some ⟨w.heap.size + 1, 0, none⟩) := (congrFun hρ (.tmp 4)).symm.trans (HF.out.lo 4 rfl)
   have v9 : ρ (.tmp 14) = xs 9 := (congrFun hρ (.tmp 14)).symm.trans (HF.out.ev 9 rfl d9)
   rw [if_pos (by simp [Region.wanted])]
   unfold Oper.wp
   rw [hρ]
   clear hρ
   obtain ⟨x8, e9⟩ := h9 d9
   rw [e9] at v9
   have hd8 : L 8 = true := x8
   obtain ⟨a8, n8, c8, e8⟩ := (hA.h8 hd8).form'
   have HE8 := Lib.hid e8
   rw [e8] at v9
   have hSS := Lib.hid (hA.s10 HLI.out hd8)
   rw [e8] at hSS
   have fz := (hA.hc HLI.out).free 0
   have fz1 := (hA.hc HLI.out).free 1
   have m0 := (hA.hc HLI.out).cell 0
   have m1 := (hA.hc HLI.out).cell 1
   simp at m0 m1
   clear e8 e9
   go_simp
   exact hK.out undef _ ⟨HVA.out.free (i := 10) (by rw [HVV.out]; rfl) _, (by simp only [une xs 2 10 rfl, une xs 5 10 rfl, une xs 7 10 rfl, une xs 8 10 rfl, une xs 9 10 rfl]; rw [HE8.out]; exact hSS.out), (by simp only [une xs 2 10 rfl, une xs 5 10 rfl, une xs 7 10 rfl, une xs 8 10 rfl, une xs 9 10 rfl]; exact h9)⟩
 focus
  intro L w' xs hL hJ
  obtain ⟨hv, hA, h9⟩ := hJ
  have e0 : xs 0 = .pointer (some ⟨w.heap.size, 0, none⟩) := hv 0 _ (by rw [HVV.out]; rfl) (hL 0 (by decide))
  have e1 : xs 1 = .slice aw nw cw := hv 1 _ (by rw [HVV.out]; rfl) (hL 1 (by decide))
  have e3 : xs 3 = .pointer (some ⟨w.heap.size, 1, none⟩) := hv 3 _ (by rw [HVV.out]; rfl) (hL 3 (by decide))
  have e4 : xs 4 = .slice ap part.length cp := hv 4 _ (by rw [HVV.out]; rfl) (hL 4 (by decide))
  have e6 : xs 6 = .int .i64 p := hv 6 _ (by rw [HVV.out]; rfl) (hL 6 (by decide))
  simp only [putGo, Act.put, List.setIfInBounds_toArray, List.set_cons_zero, List.set_cons_succ, e0, e1, e3, e4, e6]
  clear hv e0 e1 e3 e4 e6
 have hL8 := hL 8 (by decide)
 have hX10 := hL 10 (by decide)
 have HAP := Lib.hid hA
 clear h9 hA hL
 obtain ⟨W2, rfl⟩ : ∃ W, W = w' := ⟨_, rfl⟩
 have hO := HAP.out.h8 hL8
 obtain ⟨a8, n8, c8, e8⟩ := hO.form'
 have HO := Lib.hid hO
 have hY := HAP.out.he hX10
 have u0 := hY.cell 0
 have u1 := hY.cell 1
 simp at u0 u1
 have HB2 := Lib.hid HAP.out.hb
 rw [e8] at u1 HO
 clear hO hY e8
 go_wp2
 exact bodyPost_ret (v := .agg #[.slice aw nw cw, .slice a8 n8 c8]) (by simp [results, Try.results69, go_sem, u0, u1]) rfl ⟨_, rfl, HO.out.isInts, HB2.out⟩
end Go.Proofs.Yteiaeaciaglmgaa
set_option linter.unusedVariables false
set_option linter.unusedSimpArgs false
namespace Go.Proofs.Yteiaeaciaglmgaa
open Go.RowKit
/-- where a letter goes in a lot whose first q inputs are decided -/
theorem mv_next {ins : List Int} (hn : ins.Nodup) {q : Nat} (hq : q < ins.length) (row : List Int) (b y : Int) :
  mvI (ins.take (q + 1)) row b y = if nth ins q = y then b + nth row q else mvI (ins.take q) row b y := by
 by_cases e : nth ins q = y
 ·rw [if_pos e]
  unfold mvI
  rw [← e, (idx_take hn (show q < q + 1 by omega) (by omega)).2, if_pos rfl, (idx_take hn (show q < q + 1 by omega) (by omega)).1]
 ·rw [if_neg e]
  unfold mvI
  have h1 : hasB (ins.take (q + 1)) y = hasB (ins.take q) y := by
   rw [Bool.eq_iff_iff, hasB_mem, hasB_mem, List.take_succ_eq_append_getElem hq, List.mem_append, List.mem_singleton, ← nth_lt hq]
   constructor
   ·rintro (h | h)
    ·exact h
    ·exact absurd h.symm e
   ·exact .inl
  rw [h1]
  by_cases hh : hasB (ins.take q) y = true
  ·rw [if_pos hh, if_pos hh]
   have h2 := take_idx hn (show q ≤ _ by omega) hh
   have h3 := take_idx hn (show q + 1 ≤ _ by omega) (h1.trans hh)
   rw [h2.2.1, h3.2.1]
  ·rw [if_neg hh, if_neg hh]
theorem mv_zero (ins row : List Int) (b y : Int) : mvI (ins.take 0) row b y = y := by simp [mvI, hasB]
/-- the rows of a state -/
def rowS (W : List (List Int)) (part : List Int) (k : Nat) : List Int := if k < W.length then rowAt W k else part
/-- where a sender's letter is ahead of lot k -/
def atS (f : Flow) (W : List (List Int)) (part : List Int) (i k : Nat) : Int := if k ≤ W.length then posW f W k i else posS f W part i
theorem atS_le {f : Flow} {W : List (List Int)} {part : List Int} {i k : Nat} (h : k ≤ W.length) : atS f W part i k = posW f W k i := if_pos h
theorem atS_next {f : Flow} {W : List (List Int)} {part : List Int} {i k : Nat} (h : k ≤ W.length) (hk : k < f.lots.length) (hr : k < W.length → (rowAt W k).length = (lotAt f.lots k).ins.length) :
  atS f W part i (k + 1) = mvI ((lotAt f.lots k).ins.take (rowS W part k).length) (rowS W part k) (beforeI f k) (posW f W k i) := by
 by_cases e : k < W.length
 ·have h1 := hr e
  unfold atS rowS
  rw [if_pos (by omega), if_pos e, pos_step hk, h1, List.take_length]
  rfl
 ·obtain rfl : k = W.length := by omega
  unfold atS rowS
  rw [if_neg (by omega), if_neg e]
  rfl
theorem atS_end {f : Flow} {W : List (List Int)} {part : List Int} {i k : Nat} (hW : W.length ≤ f.lots.length) (h : k = W.length + 1 ∨ k = f.lots.length) (hk : k ≤ W.length + 1) : atS f W part i k = posS f W part i := by
 unfold atS
 split
 ·rename_i h1
  obtain rfl : k = W.length := by omega
  exact (posS_end (by omega) i).symm
 ·rfl
theorem rowS_low {f : Flow} {W : List (List Int)} {part : List Int} (hl : lotsB f f.lots.length = true) (hs : StOk f W part) {k : Nat} (hk : k ≤ W.length) (hkl : k < f.lots.length) :
  (rowS W part k).length ≤ (lotAt f.lots k).ins.length ∧ (k < W.length → (rowAt W k).length = (lotAt f.lots k).ins.length) ∧ ∀ q, q < (rowS W part k).length → 0 ≤ nth (rowS W part k) q ∧ nth (rowS W part k) q < (lotAt f.lots k).ins.length := by
 by_cases e : k < W.length
 ·obtain ⟨p1, p2⟩ := perm_row hl hkl (hs.way.le (show k + 1 ≤ W.length by omega))
  unfold rowS
  rw [if_pos e]
  exact ⟨by omega, fun _ => p1, fun q hq => p2 q (by omega)⟩
 ·obtain rfl : k = W.length := by omega
  unfold rowS
  rw [if_neg e]
  refine ⟨hs.fit, fun h => by omega, fun q hq => ?_⟩
  rw [nth_lt hq]
  exact hs.low _ (List.getElem_mem hq)
set_option maxHeartbeats 4000000 in
set_option maxRecDepth 100000 in
/-- frankingref29.place -/
theorem place29_any (B : Nat) (w : World) (vs vl vW vP : Value) (f : Flow) (W : List (List Int)) (part : List Int) (i : Nat) (hf : IsFlow B w vs vl f) (hW : IsMat B w vW W) (hp : IsInts B w vP part) (hB : B ≤ w.heap.size) (hck : checkE f = 0) (hso : StOk f W part) :
  Calls Try.prog 71 #[.agg #[vs, vl], .agg #[vW, vP], .int .i64 (i : Int)] w fun e w' => e = .returned (.int .i64 (posS f W part i)) ∧ Below w.heap.size w w' := by
 have HF := Lib.hid hf
 have HPT := Lib.hid hp
 obtain ⟨h0, h64, h2000, h50, hlots⟩ := checkE_ok hck
 have HLT := Lib.hid hlots
 have HWL := Lib.hid hso.len
 have HBB : Hid (∀ k, k ≤ f.lots.length → 0 ≤ beforeI f k ∧ beforeI f k ≤ 50000) := Lib.hid fun k hk => before_bd hck hk
 have HRL : Hid (∀ k, k ≤ W.length → k < f.lots.length → (rowS W part k).length ≤ (lotAt f.lots k).ins.length ∧ (k < W.length → (rowAt W k).length = (lotAt f.lots k).ins.length) ∧ ∀ q, q < (rowS W part k).length → 0 ≤ nth (rowS W part k) q ∧ nth (rowS W part k) q < (lotAt f.lots k).ins.length) := Lib.hid fun k h1 h2 => rowS_low hlots hso h1 h2
 have HRW : Hid (∀ k, k < W.length → rowS W part k = rowAt W k) := Lib.hid fun k h => by unfold rowS; rw [if_pos h]
 have HRP : Hid (rowS W part W.length = part) := Lib.hid (by unfold rowS; rw [if_neg (by omega)])
 obtain ⟨rfl, ⟨hs1, hs2⟩, hl⟩ := hf
 obtain ⟨b, off, cap, ⟨a, rfl, hcap, hmax, ha⟩, hlen, hc⟩ := hl
 obtain ⟨bw, ow, cw, ⟨aw, rfl, hcw1, hcw2, haw⟩, hwl, hcw⟩ := hW
 obtain ⟨apt, cpt, rfl⟩ := hp.form
 have HC := Lib.hid hc
 have HA := Lib.hid ha
 have HCW := Lib.hid hcw
 have HAW := Lib.hid haw
 have HPN : Hid (∀ k, k < f.lots.length → (lotAt f.lots k).ins.Nodup) := Lib.hid fun k hk => (lotB_parts (lotsB_lot hlots hk)).2.1
 have HEND : Hid (∀ k, k = W.length + 1 ∨ k = f.lots.length → k ≤ W.length + 1 → atS f W part i k = posS f W part i) := Lib.hid fun k h1 h2 => atS_end hso.len h1 h2
 have HNXT : Hid (∀ k, k ≤ W.length → k < f.lots.length → atS f W part i (k + 1) = mvI ((lotAt f.lots k).ins.take (rowS W part k).length) (rowS W part k) (beforeI f k) (posW f W k i)) := Lib.hid fun k h1 h2 => atS_next h1 h2 (HRL.out k h1 h2).2.1
 have HAT : Hid (∀ k, k ≤ W.length → atS f W part i k = posW f W k i) := Lib.hid fun k h1 => atS_le h1
 obtain ⟨n, hn⟩ : ∃ n, W.length = n := ⟨_, rfl⟩
 rw [hn] at HRL HEND HNXT HAT HWL HRW HCW HAW HRP hcw1
 rw [hn]
 have HN2 : Hid (n ≤ f.lots.length) := Lib.hid HWL.out
 clear hc ha hlots hck h50 hcw haw hp hso hwl hn hcw1
 go_enter Try.func71, Try.ntmps71
 go_upto_region 1 with fail
 refine wp_name (fun W1 hW1 => ?_)
 have HX1 : Hid (Box W1 w.heap.size #[.int .i64 f.senders, .slice a f.lots.length cap]) := Lib.hid (by rw [hW1]; exact (Box.new w #[.int .i64 f.senders, .slice a f.lots.length cap] 24).alloc _)
 have HY1 : Hid (Box W1 (w.heap.size + 1) #[.slice aw n cw, .slice apt part.length cpt]) := Lib.hid (by
  rw [hW1]
  have h := Box.new (w.alloc (.cells #[.int .i64 f.senders, .slice a f.lots.length cap] 24)) #[.slice aw n cw, .slice apt part.length cpt] 82
  rw [World.size_alloc] at h
  exact h)
 have HW1 : Hid (Below w.heap.size w W1) := Lib.hid (by rw [hW1]; exact (box_below' w _).trans ((box_below' _ _).mono (by simp)))
 clear hW1
 go_wp2
 go_loopw [7, 8] (fun v i' wr => ∃ k : Nat, k ≤ n + 1 ∧ k ≤ f.lots.length ∧ i' = .int .i64 k ∧ v = .int .i64 (atS f W part i k) ∧ Below W1.heap.size W1 wr) (fun _ i' _ => f.lots.length - (intOf i').toNat)
 case atStart => exact ⟨0, by omega, by omega, rfl, by rw [HAT.out 0 (by omega)]; rfl, Below.refl _ _⟩
 case round =>
  obtain ⟨k, hk, hkl, rfl, rfl, hb1⟩ := hrel
  have HB1 := Lib.hid hb1
  have HBR : Hid (Below w.heap.size w wr) := Lib.hid (HW1.out.trans (hb1.mono HW1.out.size))
  have HX := Lib.hid (HX1.out.ext hb1)
  have HY := Lib.hid (HY1.out.ext hb1)
  obtain ⟨z1, r1⟩ := HX.out
  obtain ⟨z2, r2⟩ := HY.out
  clear hb1
  by_cases hkn : k ≤ n
  ·by_cases hlt : k < f.lots.length
   ·obtain rfl : a = some ⟨b, off, none⟩ := by rcases HA.out with h | h; exact h; omega
    obtain ⟨vi, vk, vp, q1, _, _, hli, _, _⟩ := HC.out k hlt
    obtain ⟨bi, oi, ci, ⟨ai, rfl, hci1, hci2, hai⟩, hil, hiz, hic⟩ := hli
    obtain ⟨hrl, _, hrq⟩ := HRL.out k hkn hlt
    have hnd := HPN.out k hlt
    have HZ := Lib.hid (HAT.out k hkn)
    have HEN := Lib.hid (HNXT.out k hkn hlt)
    have HIC := Lib.hid hic
    have HAI := Lib.hid hai
    have HRQ := Lib.hid hrq
    have hB0 := HBB.out k hkl
    have hB1 := HBB.out (k + 1) (by omega)
    have hB2 : beforeI f (k + 1) = beforeI f k + (lotAt f.lots k).ins.length := rfl
    rw [hB2] at hB1
    have HNX := Lib.hid (fun q (hq : q < (rowS W part k).length) => mv_next hnd (show q < (lotAt f.lots k).ins.length by omega) (rowS W part k) (beforeI f k) (posW f W k i))
    have HZ0 := Lib.hid (mv_zero (lotAt f.lots k).ins (rowS W part k) (beforeI f k) (posW f W k i))
    have HKB : Hid (∀ W', Below w.heap.size w W' → W'.cell? ⟨b, off + k * 3, none⟩ = some (.slice ai (lotAt f.lots k).ins.length ci)) := Lib.hid fun W' hW' => (q1.below hW' hB).2
    obtain ⟨S, hS⟩ : ∃ S, posW f W k i = S := ⟨_, rfl⟩
    rw [hS] at HNX HZ HEN HZ0
    rw [HZ.out]
    clear hic hai hiz hrq hnd hB2 q1 hS HZ hk
    obtain ⟨WA, rfl⟩ : ∃ W', W' = wr := ⟨_, rfl⟩
    by_cases hkn2 : k < n
    ·obtain rfl : aw = some ⟨bw, ow, none⟩ := by rcases HAW.out with h | h; exact h; omega
     obtain ⟨vr, hr1, hr2⟩ := HCW.out k hkn2
     obtain ⟨ar, cr, rfl⟩ := hr2.form
     have HRC : Hid (WA.cell? ⟨bw, ow + k, none⟩ = some (.slice ar (rowAt W k).length cr)) := Lib.hid (hr1.below HBR.out hB).2
     have HRR := Lib.hid hr2
     rw [← HRW.out k hkn2] at HRR HRC
     have hrc := HRC.out
     clear hr1 hr2
     obtain ⟨R, hR⟩ : ∃ R, rowS W part k = R := ⟨_, rfl⟩
     rw [hR] at HRR HRC hrc HNX HEN HZ0 hrl HRQ
     clear hR
     obtain ⟨bp, op, cp, ⟨ap, hape, hcp1, hcp2, hap⟩, hpl, hpz, hpc⟩ := HRR.out
     obtain ⟨rfl, _, rfl⟩ : ar = ap ∧ True ∧ cr = cp := by simpa using hape
     have HPC := Lib.hid hpc
     have HAP := Lib.hid hap
     clear hape hpc hap hpz
     go_wp2
     go_loopw [7, 11] (fun v i' wr => ∃ q : Nat, q ≤ R.length ∧ i' = .int .i64 q ∧ v = .int .i64 (mvI ((lotAt f.lots k).ins.take q) R (beforeI f k) S) ∧ Below WA.heap.size WA wr) (fun _ i' _ => R.length - (intOf i').toNat)
     case atStart => exact ⟨0, by omega, rfl, by rw [HZ0.out], Below.refl _ _⟩
     case round =>
      obtain ⟨q, hq, rfl, rfl, hbq⟩ := hrel
      have HBQ := Lib.hid hbq
      have HBQ2 : Hid (Below w.heap.size w wr) := Lib.hid (HBR.out.trans (hbq.mono HBR.out.size))
      have HXQ := Lib.hid (HX.out.ext hbq)
      obtain ⟨z3, r3⟩ := HXQ.out
      clear hbq r1 r2 z1 z2
      by_cases hlq : q < R.length
      ·obtain rfl : ai = some ⟨bi, oi, none⟩ := by rcases HAI.out with h | h; exact h; omega
       have x0 := HKB.out _ HBQ2.out
       have hqi : q < (lotAt f.lots k).ins.length := by omega
       have hcq := (HBQ2.out.cell (p := ⟨bi, oi + q, none⟩) (by have := (HIC.out q hqi).1; show bi < _; omega)).trans (HIC.out q hqi).2
       have hnx := HNX.out q hlq
       obtain ⟨g1, g2⟩ := HRQ.out q hlq
       by_cases he : nth (lotAt f.lots k).ins q = S
       ·obtain rfl : ar = some ⟨bp, op, none⟩ := by rcases HAP.out with h | h; exact h; omega
        have he' : (nth (lotAt f.lots k).ins q == S) = true := beq_iff_eq.2 he
        have HN3 : Hid (mvI ((lotAt f.lots k).ins.take (q + 1)) R (beforeI f k) S = beforeI f k + nth R q) := Lib.hid (by rw [hnx, if_pos he])
        have HPQ : Hid (∀ W', Below wr.heap.size wr W' → W'.cell? ⟨bp, op + q, none⟩ = some (.int .i64 (nth R q)) ∧ W'.cell? ⟨w.heap.size, 0, none⟩ = some (.int .i64 f.senders) ∧ W'.cell? ⟨w.heap.size, 1, none⟩ = some (.slice (some ⟨b, off, none⟩) f.lots.length cap)) := Lib.hid fun W' hW' => by
         have hWW := HBQ2.out.trans (hW'.mono HBQ2.out.size)
         exact ⟨(hWW.cell (p := ⟨bp, op + q, none⟩) (by have := (HPC.out q hlq).1; show bp < _; omega)).trans (HPC.out q hlq).2, (HXQ.out.ext hW').2 0, (HXQ.out.ext hW').2 1⟩
        have HBF : Hid (∀ W', Below wr.heap.size wr W' → Calls Try.prog 48 #[.agg #[.int .i64 f.senders, .slice (some ⟨b, off, none⟩) f.lots.length cap], .int .i64 (k : Int)] W' fun e w' => e = .returned (.int .i64 (beforeI f k)) ∧ Below W'.heap.size W' w') := Lib.hid fun W' hW' => by
         have hWW := HBQ2.out.trans (hW'.mono HBQ2.out.size)
         exact before_any B W' _ _ f k (HF.out.below hWW hB) (Nat.le_trans hB hWW.size) (by omega) (by omega) (by omega)
        clear hnx he
        obtain ⟨bv, hbv⟩ : ∃ x, beforeI f k = x := ⟨_, rfl⟩
        obtain ⟨pv, hpv⟩ : ∃ x, nth R q = x := ⟨_, rfl⟩
        rw [hbv] at HBF HN3 hB0 hB1
        rw [hpv] at HPQ HN3 g1 g2
        rw [hbv]
        clear hbv hpv
        have HSUM : Hid (IntKind.i64.wrap (bv + pv) = bv + pv) := Lib.hid (by rw [IntWalk.i64_in _ (by omega)])
        obtain ⟨WB, rfl⟩ : ∃ W', W' = wr := ⟨_, rfl⟩
        go_upto_region 13 with fail
        obtain ⟨V, hV⟩ : ∃ V : List (Option Value), V = [some (.agg #[.int .i64 f.senders, .slice (some ⟨b, off, none⟩) f.lots.length cap]), some (.int .i64 (k : Int)), some (.int .i64 bv), some (.slice (some ⟨bp, op, none⟩) R.length cr), some (.int .i64 (q : Int)), some (.pointer (some ⟨bp, op + q, none⟩)), some (.int .i64 pv), some (.int .i64 (bv + pv)), some (.int .i64 (bv + pv))] := ⟨_, rfl⟩
        have HVV := Lib.hid hV
        clear hV
        refine wp_region_V [some 57, some 58, some 59, some 60, some 61, some 62, some 63, some 64, some 7] (fun L w' xs => ValsAt V L xs ∧ (Below WB.heap.size WB w')) (by kernel_rfl) (by kernel_rfl) (by rfl) (by rfl) (by rfl) ?_ ?_ ?_
        focus
         exact fun xs => ⟨ValsAt.none _ _, (Below.refl _ _).drew⟩
        focus
         refine ⟨?_, ?_, ?_, ?_, ?_, ?_, ?_, ?_, ?_, trivial⟩
         all_goals
          intro L a' w' xs hi hd hf hJ K hK
          obtain ⟨hv, hb⟩ := hJ
          have HF := Lib.hid hf
          have HVA := Lib.hid hv
          have HLI := Lib.hid hi
          clear hf hv hi
         focus
          clear hd
          obtain ⟨ρ, hρ⟩ : ∃ ρ, a'.eval = ρ := ⟨_, rfl⟩
          have hcst : ∀ v, ρ (.const v) = v := fun v => (congrFun hρ (.const v)).symm
          have l3 : ρ (.tmp 3) = .pointer (some ⟨w.heap.size, 0, none⟩) := (congrFun hρ (.tmp 3)).symm.trans (HF.out.lo 3 rfl)
          obtain ⟨k1, k2, k3⟩ := HPQ.out _ hb
          rw [if_pos (by simp [Region.wanted])]
          unfold Oper.wp
          rw [hρ]
          clear hρ
          go_simp
          exact hK.out _ _ ⟨HVA.out.set (i := 0) (by rw [HVV.out]; rfl), hb⟩
         focus
          clear hd
          obtain ⟨ρ, hρ⟩ : ∃ ρ, a'.eval = ρ := ⟨_, rfl⟩
          have hcst : ∀ v, ρ (.const v) = v := fun v => (congrFun hρ (.const v)).symm
          have l8 : ρ (.tmp 8) = .int .i64 (k : Int) := (congrFun hρ (.tmp 8)).symm.trans (HF.out.lo 8 rfl)
          rw [if_pos (by simp [Region.wanted])]
          unfold Oper.wp
          rw [hρ]
          clear hρ
          go_simp
          exact hK.out _ _ ⟨HVA.out.set (i := 1) (by rw [HVV.out]; rfl), hb⟩
         focus
          obtain ⟨d0, d1, _⟩ := hd
          obtain ⟨ρ, hρ⟩ : ∃ ρ, a'.eval = ρ := ⟨_, rfl⟩
          have hcst : ∀ v, ρ (.const v) = v := fun v => (congrFun hρ (.const v)).symm
          have hfun : ∀ k, ρ (.func k) = .func (.func k) #[] #[] := fun k => (congrFun hρ (.func k)).symm
          have v0 : ρ (.tmp 57) = .agg #[.int .i64 f.senders, .slice (some ⟨b, off, none⟩) f.lots.length cap] := (congrFun hρ (.tmp 57)).symm.trans ((HF.out.ev 0 rfl d0).trans (HVA.out 0 _ (by rw [HVV.out]; rfl) d0))
          have v1 : ρ (.tmp 58) = .int .i64 (k : Int) := (congrFun hρ (.tmp 58)).symm.trans ((HF.out.ev 1 rfl d1).trans (HVA.out 1 _ (by rw [HVV.out]; rfl) d1))
          rw [if_pos (by simp [Region.wanted])]
          unfold Oper.wp
          rw [hρ]
          clear hρ
          go_simp
          go_at_call 48
          refine (HBF.out _ hb).mono ?_
          rintro e w5' ⟨rfl, hb5⟩
          exact hK.out _ _ ⟨HVA.out.set (i := 2) (by rw [HVV.out]; rfl), hb.trans (hb5.mono hb.size)⟩
         focus
          clear hd
          obtain ⟨ρ, hρ⟩ : ∃ ρ, a'.eval = ρ := ⟨_, rfl⟩
          have hcst : ∀ v, ρ (.const v) = v := fun v => (congrFun hρ (.const v)).symm
          have l9 : ρ (.tmp 9) = .slice (some ⟨bp, op, none⟩) R.length cr := (congrFun hρ (.tmp 9)).symm.trans (HF.out.lo 9 rfl)
          rw [if_pos (by simp [Region.wanted])]
          unfold Oper.wp
          rw [hρ]
          clear hρ
          go_simp
          exact hK.out _ _ ⟨HVA.out.set (i := 3) (by rw [HVV.out]; rfl), hb⟩
         focus
          clear hd
          obtain ⟨ρ, hρ⟩ : ∃ ρ, a'.eval = ρ := ⟨_, rfl⟩
          have hcst : ∀ v, ρ (.const v) = v := fun v => (congrFun hρ (.const v)).symm
          have l11 : ρ (.tmp 11) = .int .i64 (q : Int) := (congrFun hρ (.tmp 11)).symm.trans (HF.out.lo 11 rfl)
          rw [if_pos (by simp [Region.wanted])]
          unfold Oper.wp
          rw [hρ]
          clear hρ
          go_simp
          exact hK.out _ _ ⟨HVA.out.set (i := 4) (by rw [HVV.out]; rfl), hb⟩
         focus
          obtain ⟨d3, d4, _⟩ := hd
          obtain ⟨ρ, hρ⟩ : ∃ ρ, a'.eval = ρ := ⟨_, rfl⟩
          have hcst : ∀ v, ρ (.const v) = v := fun v => (congrFun hρ (.const v)).symm
          have v3 : ρ (.tmp 60) = .slice (some ⟨bp, op, none⟩) R.length cr := (congrFun hρ (.tmp 60)).symm.trans ((HF.out.ev 3 rfl d3).trans (HVA.out 3 _ (by rw [HVV.out]; rfl) d3))
          have v4 : ρ (.tmp 61) = .int .i64 (q : Int) := (congrFun hρ (.tmp 61)).symm.trans ((HF.out.ev 4 rfl d4).trans (HVA.out 4 _ (by rw [HVV.out]; rfl) d4))
          rw [if_pos (by simp [Region.wanted])]
          unfold Oper.wp
          rw [hρ]
          clear hρ
          go_simp
          exact hK.out _ _ ⟨HVA.out.set (i := 5) (by rw [HVV.out]; rfl), hb⟩
         focus
          obtain ⟨d5, _⟩ := hd
          obtain ⟨ρ, hρ⟩ : ∃ ρ, a'.eval = ρ := ⟨_, rfl⟩
          have hcst : ∀ v, ρ (.const v) = v := fun v => (congrFun hρ (.const v)).symm
          have v5 : ρ (.tmp 62) = .pointer (some ⟨bp, op + q, none⟩) := (congrFun hρ (.tmp 62)).symm.trans ((HF.out.ev 5 rfl d5).trans (HVA.out 5 _ (by rw [HVV.out]; rfl) d5))
          obtain ⟨k1, k2, k3⟩ := HPQ.out _ hb
          rw [if_pos (by simp [Region.wanted])]
          unfold Oper.wp
          rw [hρ]
          clear hρ
          go_simp
          exact hK.out _ _ ⟨HVA.out.set (i := 6) (by rw [HVV.out]; rfl), hb⟩
         focus
          obtain ⟨d2, d6, _⟩ := hd
          obtain ⟨ρ, hρ⟩ : ∃ ρ, a'.eval = ρ := ⟨_, rfl⟩
          have hcst : ∀ v, ρ (.const v) = v := fun v => (congrFun hρ (.const v)).symm
          have v2 : ρ (.tmp 59) = .int .i64 bv := (congrFun hρ (.tmp 59)).symm.trans ((HF.out.ev 2 rfl d2).trans (HVA.out 2 _ (by rw [HVV.out]; rfl) d2))
          have v6 : ρ (.tmp 63) = .int .i64 pv := (congrFun hρ (.tmp 63)).symm.trans ((HF.out.ev 6 rfl d6).trans (HVA.out 6 _ (by rw [HVV.out]; rfl) d6))
          have hsum := HSUM.out
          rw [if_pos (by simp [Region.wanted])]
          unfold Oper.wp
          rw [hρ]
          clear hρ
          go_simp
          exact hK.out _ _ ⟨HVA.out.set (i := 7) (by rw [HVV.out]; rfl), hb⟩
         focus
          obtain ⟨d7, d2, d0, d1, _, d3, d4, d5, d6, _, _⟩ := hd
          obtain ⟨ρ, hρ⟩ : ∃ ρ, a'.eval = ρ := ⟨_, rfl⟩
          have hcst : ∀ v, ρ (.const v) = v := fun v => (congrFun hρ (.const v)).symm
          have v7 : ρ (.tmp 64) = .int .i64 (bv + pv) := (congrFun hρ (.tmp 64)).symm.trans ((HF.out.ev 7 rfl d7).trans (HVA.out 7 _ (by rw [HVV.out]; rfl) d7))
          rw [if_pos (by simp [Region.wanted])]
          unfold Oper.wp
          rw [hρ]
          clear hρ
          go_simp
          exact hK.out _ _ ⟨HVA.out.set (i := 8) (by rw [HVV.out]; rfl), hb⟩
        focus
         intro L w' xs hL hJ
         obtain ⟨hv, hb⟩ := hJ
         have e0 : xs 0 = .agg #[.int .i64 f.senders, .slice (some ⟨b, off, none⟩) f.lots.length cap] := hv 0 _ (by rw [HVV.out]; rfl) (hL 0 (by decide))
         have e1 : xs 1 = .int .i64 (k : Int) := hv 1 _ (by rw [HVV.out]; rfl) (hL 1 (by decide))
         have e2 : xs 2 = .int .i64 bv := hv 2 _ (by rw [HVV.out]; rfl) (hL 2 (by decide))
         have e3 : xs 3 = .slice (some ⟨bp, op, none⟩) R.length cr := hv 3 _ (by rw [HVV.out]; rfl) (hL 3 (by decide))
         have e4 : xs 4 = .int .i64 (q : Int) := hv 4 _ (by rw [HVV.out]; rfl) (hL 4 (by decide))
         have e5 : xs 5 = .pointer (some ⟨bp, op + q, none⟩) := hv 5 _ (by rw [HVV.out]; rfl) (hL 5 (by decide))
         have e6 : xs 6 = .int .i64 pv := hv 6 _ (by rw [HVV.out]; rfl) (hL 6 (by decide))
         have e7 : xs 7 = .int .i64 (bv + pv) := hv 7 _ (by rw [HVV.out]; rfl) (hL 7 (by decide))
         have e8 : xs 8 = .int .i64 (bv + pv) := hv 8 _ (by rw [HVV.out]; rfl) (hL 8 (by decide))
         simp only [putGo, Act.put, List.setIfInBounds_toArray, List.set_cons_zero, List.set_cons_succ, e0, e1, e2, e3, e4, e5, e6, e7, e8]
         clear hv e0 e1 e2 e3 e4 e5 e6 e7 e8
         obtain ⟨WC, rfl⟩ : ∃ W', W' = w' := ⟨_, rfl⟩
         have HBC := Lib.hid (HBQ.out.trans (hb.mono HBQ.out.size))
         clear hb hL
         go_wp2
         go_roundw
         case rel => exact ⟨q + 1, by omega, by go_num, by rw [HN3.out], HBC.out⟩
         case measure => simp [intOf]; omega
       ·have he' : (nth (lotAt f.lots k).ins q == S) = false := beq_eq_false_iff_ne.2 he
        have HN3 : Hid (mvI ((lotAt f.lots k).ins.take (q + 1)) R (beforeI f k) S = mvI ((lotAt f.lots k).ins.take q) R (beforeI f k) S) := Lib.hid (by rw [hnx, if_neg he])
        clear hnx he
        go_wp2
        go_roundw
        case rel => exact ⟨q + 1, by omega, by go_num, by rw [HN3.out], HBQ.out⟩
        case measure => simp [intOf]; omega
      ·obtain rfl : q = R.length := by omega
       go_wp2
       go_roundw
       case rel => exact ⟨k + 1, by omega, by omega, by go_num, by rw [HEN.out], HB1.out.trans (HBQ.out.mono HB1.out.size)⟩
       case measure => simp [intOf]; omega
    ·obtain rfl : k = n := by omega
     have HRR : Hid (IsInts B w (.slice apt part.length cpt) part) := Lib.hid HPT.out
     have HRE := HRP.out
     rw [HRE] at HNX HEN HZ0 hrl HRQ
     clear HRE
     obtain ⟨bp, op, cp, ⟨ap, hape, hcp1, hcp2, hap⟩, hpl, hpz, hpc⟩ := HRR.out
     obtain ⟨rfl, _, rfl⟩ : apt = ap ∧ True ∧ cpt = cp := by simpa using hape
     have HPC := Lib.hid hpc
     have HAP := Lib.hid hap
     clear hape hpc hap hpz
     go_wp2
     go_loopw [7, 11] (fun v i' wr => ∃ q : Nat, q ≤ part.length ∧ i' = .int .i64 q ∧ v = .int .i64 (mvI ((lotAt f.lots k).ins.take q) part (beforeI f k) S) ∧ Below WA.heap.size WA wr) (fun _ i' _ => part.length - (intOf i').toNat)
     case atStart => exact ⟨0, by omega, rfl, by rw [HZ0.out], Below.refl _ _⟩
     case round =>
      obtain ⟨q, hq, rfl, rfl, hbq⟩ := hrel
      have HBQ := Lib.hid hbq
      have HBQ2 : Hid (Below w.heap.size w wr) := Lib.hid (HBR.out.trans (hbq.mono HBR.out.size))
      have HXQ := Lib.hid (HX.out.ext hbq)
      obtain ⟨z3, r3⟩ := HXQ.out
      clear hbq r1 r2 z1 z2
      by_cases hlq : q < part.length
      ·obtain rfl : ai = some ⟨bi, oi, none⟩ := by rcases HAI.out with h | h; exact h; omega
       have x0 := HKB.out _ HBQ2.out
       have hqi : q < (lotAt f.lots k).ins.length := by omega
       have hcq := (HBQ2.out.cell (p := ⟨bi, oi + q, none⟩) (by have := (HIC.out q hqi).1; show bi < _; omega)).trans (HIC.out q hqi).2
       have hnx := HNX.out q hlq
       obtain ⟨g1, g2⟩ := HRQ.out q hlq
       by_cases he : nth (lotAt f.lots k).ins q = S
       ·obtain rfl : apt = some ⟨bp, op, none⟩ := by rcases HAP.out with h | h; exact h; omega
        have he' : (nth (lotAt f.lots k).ins q == S) = true := beq_iff_eq.2 he
        have HN3 : Hid (mvI ((lotAt f.lots k).ins.take (q + 1)) part (beforeI f k) S = beforeI f k + nth part q) := Lib.hid (by rw [hnx, if_pos he])
        have HPQ : Hid (∀ W', Below wr.heap.size wr W' → W'.cell? ⟨bp, op + q, none⟩ = some (.int .i64 (nth part q)) ∧ W'.cell? ⟨w.heap.size, 0, none⟩ = some (.int .i64 f.senders) ∧ W'.cell? ⟨w.heap.size, 1, none⟩ = some (.slice (some ⟨b, off, none⟩) f.lots.length cap)) := Lib.hid fun W' hW' => by
         have hWW := HBQ2.out.trans (hW'.mono HBQ2.out.size)
         exact ⟨(hWW.cell (p := ⟨bp, op + q, none⟩) (by have := (HPC.out q hlq).1; show bp < _; omega)).trans (HPC.out q hlq).2, (HXQ.out.ext hW').2 0, (HXQ.out.ext hW').2 1⟩
        have HBF : Hid (∀ W', Below wr.heap.size wr W' → Calls Try.prog 48 #[.agg #[.int .i64 f.senders, .slice (some ⟨b, off, none⟩) f.lots.length cap], .int .i64 (k : Int)] W' fun e w' => e = .returned (.int .i64 (beforeI f k)) ∧ Below W'.heap.size W' w') := Lib.hid fun W' hW' => by
         have hWW := HBQ2.out.trans (hW'.mono HBQ2.out.size)
         exact before_any B W' _ _ f k (HF.out.below hWW hB) (Nat.le_trans hB hWW.size) (by omega) (by omega) (by omega)
        clear hnx he
        obtain ⟨bv, hbv⟩ : ∃ x, beforeI f k = x := ⟨_, rfl⟩
        obtain ⟨pv, hpv⟩ : ∃ x, nth part q = x := ⟨_, rfl⟩
        rw [hbv] at HBF HN3 hB0 hB1
        rw [hpv] at HPQ HN3 g1 g2
        rw [hbv]
        clear hbv hpv
        have HSUM : Hid (IntKind.i64.wrap (bv + pv) = bv + pv) := Lib.hid (by rw [IntWalk.i64_in _ (by omega)])
        obtain ⟨WB, rfl⟩ : ∃ W', W' = wr := ⟨_, rfl⟩
        go_upto_region 13 with fail
        obtain ⟨V, hV⟩ : ∃ V : List (Option Value), V = [some (.agg #[.int .i64 f.senders, .slice (some ⟨b, off, none⟩) f.lots.length cap]), some (.int .i64 (k : Int)), some (.int .i64 bv), some (.slice (some ⟨bp, op, none⟩) part.length cpt), some (.int .i64 (q : Int)), some (.pointer (some ⟨bp, op + q, none⟩)), some (.int .i64 pv), some (.int .i64 (bv + pv)), some (.int .i64 (bv + pv))] := ⟨_, rfl⟩
        have HVV := Lib.hid hV
        clear hV
        refine wp_region_V [some 57, some 58, some 59, some 60, some 61, some 62, some 63, some 64, some 7] (fun L w' xs => ValsAt V L xs ∧ (Below WB.heap.size WB w')) (by kernel_rfl) (by kernel_rfl) (by rfl) (by rfl) (by rfl) ?_ ?_ ?_
        focus
         exact fun xs => ⟨ValsAt.none _ _, (Below.refl _ _).drew⟩
        focus
         refine ⟨?_, ?_, ?_, ?_, ?_, ?_, ?_, ?_, ?_, trivial⟩
         all_goals
          intro L a' w' xs hi hd hf hJ K hK
          obtain ⟨hv, hb⟩ := hJ
          have HF := Lib.hid hf
          have HVA := Lib.hid hv
          have HLI := Lib.hid hi
          clear hf hv hi
         focus
          clear hd
          obtain ⟨ρ, hρ⟩ : ∃ ρ, a'.eval = ρ := ⟨_, rfl⟩
          have hcst : ∀ v, ρ (.const v) = v := fun v => (congrFun hρ (.const v)).symm
          have l3 : ρ (.tmp 3) = .pointer (some ⟨w.heap.size, 0, none⟩) := (congrFun hρ (.tmp 3)).symm.trans (HF.out.lo 3 rfl)
          obtain ⟨k1, k2, k3⟩ := HPQ.out _ hb
          rw [if_pos (by simp [Region.wanted])]
          unfold Oper.wp
          rw [hρ]
          clear hρ
          go_simp
          exact hK.out _ _ ⟨HVA.out.set (i := 0) (by rw [HVV.out]; rfl), hb⟩
         focus
          clear hd
          obtain ⟨ρ, hρ⟩ : ∃ ρ, a'.eval = ρ := ⟨_, rfl⟩
          have hcst : ∀ v, ρ (.const v) = v := fun v => (congrFun hρ (.const v)).symm
          have l8 : ρ (.tmp 8) = .int .i64 (k : Int) := (congrFun hρ (.tmp 8)).symm.trans (HF.out.lo 8 rfl)
          rw [if_pos (by simp [Region.wanted])]
          unfold Oper.wp
          rw [hρ]
          clear hρ
          go_simp
          exact hK.out _ _ ⟨HVA.out.set (i := 1) (by rw [HVV.out]; rfl), hb⟩
         focus
          obtain ⟨d0, d1, _⟩ := hd
          obtain ⟨ρ, hρ⟩ : ∃ ρ, a'.eval = ρ := ⟨_, rfl⟩
          have hcst : ∀ v, ρ (.const v) = v := fun v => (congrFun hρ (.const v)).symm
          have hfun : ∀ k, ρ (.func k) = .func (.func k) #[] #[] := fun k => (congrFun hρ (.func k)).symm
          have v0 : ρ (.tmp 57) = .agg #[.int .i64 f.senders, .slice (some ⟨b, off, none⟩) f.lots.length cap] := (congrFun hρ (.tmp 57)).symm.trans ((HF.out.ev 0 rfl d0).trans (HVA.out 0 _ (by rw [HVV.out]; rfl) d0))
          have v1 : ρ (.tmp 58) = .int .i64 (k : Int) := (congrFun hρ (.tmp 58)).symm.trans ((HF.out.ev 1 rfl d1).trans (HVA.out 1 _ (by rw [HVV.out]; rfl) d1))
          rw [if_pos (by simp [Region.wanted])]
          unfold Oper.wp
          rw [hρ]
          clear hρ
          go_simp
          go_at_call 48
          refine (HBF.out _ hb).mono ?_
          rintro e w5' ⟨rfl, hb5⟩
          exact hK.out _ _ ⟨HVA.out.set (i := 2) (by rw [HVV.out]; rfl), hb.trans (hb5.mono hb.size)⟩
         focus
          clear hd
          obtain ⟨ρ, hρ⟩ : ∃ ρ, a'.eval = ρ := ⟨_, rfl⟩
          have hcst : ∀ v, ρ (.const v) = v := fun v => (congrFun hρ (.const v)).symm
          have l9 : ρ (.tmp 9) = .slice (some ⟨bp, op, none⟩) part.length cpt := (congrFun hρ (.tmp 9)).symm.trans (HF.out.lo 9 rfl)
          rw [if_pos (by simp [Region.wanted])]
          unfold Oper.wp
          rw [hρ]
          clear hρ
          go_simp
          exact hK.out _ _ ⟨HVA.out.set (i := 3) (by rw [HVV.out]; rfl), hb⟩
         focus
          clear hd
          obtain ⟨ρ, hρ⟩ : ∃ ρ, a'.eval = ρ := ⟨_, rfl⟩
          have hcst : ∀ v, ρ (.const v) = v := fun v => (congrFun hρ (.const v)).symm
          have l11 : ρ (.tmp 11) = .int .i64 (q : Int) := (congrFun hρ (.tmp 11)).symm.trans (HF.out.lo 11 rfl)
          rw [if_pos (by simp [Region.wanted])]
          unfold Oper.wp
          rw [hρ]
          clear hρ
          go_simp
          exact hK.out _ _ ⟨HVA.out.set (i := 4) (by rw [HVV.out]; rfl), hb⟩
         focus
          obtain ⟨d3, d4, _⟩ := hd
          obtain ⟨ρ, hρ⟩ : ∃ ρ, a'.eval = ρ := ⟨_, rfl⟩
          have hcst : ∀ v, ρ (.const v) = v := fun v => (congrFun hρ (.const v)).symm
          have v3 : ρ (.tmp 60) = .slice (some ⟨bp, op, none⟩) part.length cpt := (congrFun hρ (.tmp 60)).symm.trans ((HF.out.ev 3 rfl d3).trans (HVA.out 3 _ (by rw [HVV.out]; rfl) d3))
          have v4 : ρ (.tmp 61) = .int .i64 (q : Int) := (congrFun hρ (.tmp 61)).symm.trans ((HF.out.ev 4 rfl d4).trans (HVA.out 4 _ (by rw [HVV.out]; rfl) d4))
          rw [if_pos (by simp [Region.wanted])]
          unfold Oper.wp
          rw [hρ]
          clear hρ
          go_simp
          exact hK.out _ _ ⟨HVA.out.set (i := 5) (by rw [HVV.out]; rfl), hb⟩
         focus
          obtain ⟨d5, _⟩ := hd
          obtain ⟨ρ, hρ⟩ : ∃ ρ, a'.eval = ρ := ⟨_, rfl⟩
          have hcst : ∀ v, ρ (.const v) = v := fun v => (congrFun hρ (.const v)).symm
          have v5 : ρ (.tmp 62) = .pointer (some ⟨bp, op + q, none⟩) := (congrFun hρ (.tmp 62)).symm.trans ((HF.out.ev 5 rfl d5).trans (HVA.out 5 _ (by rw [HVV.out]; rfl) d5))
          obtain ⟨k1, k2, k3⟩ := HPQ.out _ hb
          rw [if_pos (by simp [Region.wanted])]
          unfold Oper.wp
          rw [hρ]
          clear hρ
          go_simp
          exact hK.out _ _ ⟨HVA.out.set (i := 6) (by rw [HVV.out]; rfl), hb⟩
         focus
          obtain ⟨d2, d6, _⟩ := hd
          obtain ⟨ρ, hρ⟩ : ∃ ρ, a'.eval = ρ := ⟨_, rfl⟩
          have hcst : ∀ v, ρ (.const v) = v := fun v => (congrFun hρ (.const v)).symm
          have v2 : ρ (.tmp 59) = .int .i64 bv := (congrFun hρ (.tmp 59)).symm.trans ((HF.out.ev 2 rfl d2).trans (HVA.out 2 _ (by rw [HVV.out]; rfl) d2))
          have v6 : ρ (.tmp 63) = .int .i64 pv := (congrFun hρ (.tmp 63)).symm.trans ((HF.out.ev 6 rfl d6).trans (HVA.out 6 _ (by rw [HVV.out]; rfl) d6))
          have hsum := HSUM.out
          rw [if_pos (by simp [Region.wanted])]
          unfold Oper.wp
          rw [hρ]
          clear hρ
          go_simp
          exact hK.out _ _ ⟨HVA.out.set (i := 7) (by rw [HVV.out]; rfl), hb⟩
         focus
          obtain ⟨d7, d2, d0, d1, _, d3, d4, d5, d6, _, _⟩ := hd
          obtain ⟨ρ, hρ⟩ : ∃ ρ, a'.eval = ρ := ⟨_, rfl⟩
          have hcst : ∀ v, ρ (.const v) = v := fun v => (congrFun hρ (.const v)).symm
          have v7 : ρ (.tmp 64) = .int .i64 (bv + pv) := (congrFun hρ (.tmp 64)).symm.trans ((HF.out.ev 7 rfl d7).trans (HVA.out 7 _ (by rw [HVV.out]; rfl) d7))
          rw [if_pos (by simp [Region.wanted])]
          unfold Oper.wp
          rw [hρ]
          clear hρ
          go_simp
          exact hK.out _ _ ⟨HVA.out.set (i := 8) (by rw [HVV.out]; rfl), hb⟩
        focus
         intro L w' xs hL hJ
         obtain ⟨hv, hb⟩ := hJ
         have e0 : xs 0 = .agg #[.int .i64 f.senders, .slice (some ⟨b, off, none⟩) f.lots.length cap] := hv 0 _ (by rw [HVV.out]; rfl) (hL 0 (by decide))
         have e1 : xs 1 = .int .i64 (k : Int) := hv 1 _ (by rw [HVV.out]; rfl) (hL 1 (by decide))
         have e2 : xs 2 = .int .i64 bv := hv 2 _ (by rw [HVV.out]; rfl) (hL 2 (by decide))
         have e3 : xs 3 = .slice (some ⟨bp, op, none⟩) part.length cpt := hv 3 _ (by rw [HVV.out]; rfl) (hL 3 (by decide))
         have e4 : xs 4 = .int .i64 (q : Int) := hv 4 _ (by rw [HVV.out]; rfl) (hL 4 (by decide))
         have e5 : xs 5 = .pointer (some ⟨bp, op + q, none⟩) := hv 5 _ (by rw [HVV.out]; rfl) (hL 5 (by decide))
         have e6 : xs 6 = .int .i64 pv := hv 6 _ (by rw [HVV.out]; rfl) (hL 6 (by decide))
         have e7 : xs 7 = .int .i64 (bv + pv) := hv 7 _ (by rw [HVV.out]; rfl) (hL 7 (by decide))
         have e8 : xs 8 = .int .i64 (bv + pv) := hv 8 _ (by rw [HVV.out]; rfl) (hL 8 (by decide))
         simp only [putGo, Act.put, List.setIfInBounds_toArray, List.set_cons_zero, List.set_cons_succ, e0, e1, e2, e3, e4, e5, e6, e7, e8]
         clear hv e0 e1 e2 e3 e4 e5 e6 e7 e8
         obtain ⟨WC, rfl⟩ : ∃ W', W' = w' := ⟨_, rfl⟩
         have HBC := Lib.hid (HBQ.out.trans (hb.mono HBQ.out.size))
         clear hb hL
         go_wp2
         go_roundw
         case rel => exact ⟨q + 1, by omega, by go_num, by rw [HN3.out], HBC.out⟩
         case measure => simp [intOf]; omega
       ·have he' : (nth (lotAt f.lots k).ins q == S) = false := beq_eq_false_iff_ne.2 he
        have HN3 : Hid (mvI ((lotAt f.lots k).ins.take (q + 1)) part (beforeI f k) S = mvI ((lotAt f.lots k).ins.take q) part (beforeI f k) S) := Lib.hid (by rw [hnx, if_neg he])
        clear hnx he
        go_wp2
        go_roundw
        case rel => exact ⟨q + 1, by omega, by go_num, by rw [HN3.out], HBQ.out⟩
        case measure => simp [intOf]; omega
      ·obtain rfl : q = part.length := by omega
       go_wp2
       go_roundw
       case rel => exact ⟨k + 1, by omega, by omega, by go_num, by rw [HEN.out], HB1.out.trans (HBQ.out.mono HB1.out.size)⟩
       case measure => simp [intOf]; omega
   ·obtain rfl : k = f.lots.length := by omega
    have HE := Lib.hid (HEND.out f.lots.length (.inr rfl) (by omega))
    go_wp2
    go_ret
    exact ⟨by rw [HE.out]; rfl, HBR.out⟩
  ·obtain rfl : k = n + 1 := by omega
   have HE := Lib.hid (HEND.out (n + 1) (.inl rfl) (by omega))
   have hne : ¬ ((n : Int) + 1 ≤ (n : Int)) := by omega
   go_wp2
   go_ret
   exact ⟨by rw [HE.out]; rfl, HBR.out⟩
end Go.Proofs.Yteiaeaciaglmgaa
set_option linter.unusedVariables false
set_option linter.unusedSimpArgs false
namespace Go.Proofs.Yteiaeaciaglmgaa
open Go.RowKit
theorem has_not {l : List Int} {s : Int} (h : ∀ j, j < l.length → nth l j ≠ s) : hasB l s = false := by
 cases e : hasB l s with
 | false => rfl
 | true =>
  obtain ⟨i, hi, h1⟩ := List.mem_iff_getElem.1 (hasB_mem.1 e)
  exact absurd ((nth_lt hi).trans h1) (h i hi)
theorem anyN_no {p : Nat → Bool} {n : Nat} (h : ∀ i, i < n → p i = false) : anyN p n = false := by
 cases e : anyN p n with
 | false => rfl
 | true => obtain ⟨i, hi, h1⟩ := anyN_iff.1 e; rw [h i hi] at h1; cases h1
/-- what Reaches answers at a spot that is in lot k -/
theorem rAt_at {f : Flow} (hl : lotsB f f.lots.length = true) {s e : Int} {k q : Nat} (hk : k < f.lots.length) (hn : ∀ j, j < k → hasB (lotAt f.lots j).ins s = false) (hq : q < (lotAt f.lots k).ins.length) (he : nth (lotAt f.lots k).ins q = s) :
  rAt f 0 s e = if (lotAt f.lots k).known then rAt f (k + 1) (beforeI f k + nth (lotAt f.lots k).perm q) e else anyN (fun p => rAt f (k + 1) (beforeI f k + p) e) (lotAt f.lots k).ins.length := by
 have hnd := (lotB_parts (lotsB_lot hl hk)).2.1
 have h1 := (idx_take hnd hq (Nat.le_refl _))
 rw [List.take_length, he] at h1
 rw [rAt_skip e (Nat.zero_le _) (Nat.le_of_lt hk) (fun j _ hj => hn j hj), rAt_step hk, if_pos h1.2, h1.1]
set_option maxHeartbeats 4000000 in
set_option maxRecDepth 100000 in
theorem reach29_step (B : Nat) (w : World) (vs vl : Value) (f : Flow) (s e : Int) (m : Nat) (hf : IsFlow B w vs vl f) (hB : B ≤ w.heap.size) (hck : checkE f = 0) (hno : ∀ j, j + m < f.lots.length → hasB (lotAt f.lots j).ins s = false)
  (hih : ∀ (k : Nat) (W' : World) (s' : Int), k < f.lots.length → f.lots.length ≤ k + m → Below w.heap.size w W' → beforeI f k ≤ s' → Calls Try.prog 70 #[.agg #[vs, vl], .int .i64 s', .int .i64 e] W' fun en w' => en = .returned (.bool (rAt f (k + 1) s' e)) ∧ Below W'.heap.size W' w') :
  Calls Try.prog 70 #[.agg #[vs, vl], .int .i64 s, .int .i64 e] w fun en w' => en = .returned (.bool (rAt f 0 s e)) ∧ Below w.heap.size w w' := by
 have HF := Lib.hid hf
 obtain ⟨h0, h64, h2000, h50, hlots⟩ := checkE_ok hck
 have HLT := Lib.hid hlots
 have HBB : Hid (∀ k, k ≤ f.lots.length → 0 ≤ beforeI f k ∧ beforeI f k ≤ 50000) := Lib.hid fun k hk => before_bd hck hk
 have HNO := Lib.hid hno
 have HIH := Lib.hid hih
 obtain ⟨rfl, ⟨hs1, hs2⟩, hl⟩ := hf
 obtain ⟨b, off, cap, ⟨a, rfl, hcap, hmax, ha⟩, hlen, hc⟩ := hl
 have HC := Lib.hid hc
 have HA := Lib.hid ha
 have HAT : Hid (∀ (k q : Nat), k < f.lots.length → (∀ j, j < k → hasB (lotAt f.lots j).ins s = false) → q < (lotAt f.lots k).ins.length → nth (lotAt f.lots k).ins q = s → rAt f 0 s e = if (lotAt f.lots k).known then rAt f (k + 1) (beforeI f k + nth (lotAt f.lots k).perm q) e else anyN (fun p => rAt f (k + 1) (beforeI f k + p) e) (lotAt f.lots k).ins.length) := Lib.hid fun k q h1 h2 h3 h4 => rAt_at hlots h1 h2 h3 h4
 have HEN : Hid ((∀ j, j < f.lots.length → hasB (lotAt f.lots j).ins s = false) → rAt f 0 s e = (s == e)) := Lib.hid fun h => (rAt_skip e (Nat.zero_le _) (Nat.le_refl _) (fun j _ hj => h j hj)).trans (rAt_last f s e)
 clear hc ha hlots hck h50 hno hih
 obtain ⟨RV, hRV⟩ : ∃ R, rAt f 0 s e = R := ⟨_, rfl⟩
 rw [hRV] at HAT HEN ⊢
 clear hRV
 go_enter Try.func70, Try.ntmps70
 go_upto_region 1 with fail
 refine wp_name (fun W1 hW1 => ?_)
 have HX1 : Hid (Box W1 w.heap.size #[.int .i64 f.senders, .slice a f.lots.length cap]) := Lib.hid (by rw [hW1]; exact Box.new w #[.int .i64 f.senders, .slice a f.lots.length cap] 24)
 have HW1 : Hid (Below w.heap.size w W1) := Lib.hid (by rw [hW1]; exact box_below' w _)
 clear hW1
 go_wp2
 go_loopw [7] (fun i' wr => ∃ k : Nat, k ≤ f.lots.length ∧ i' = .int .i64 k ∧ (∀ j, j < k → hasB (lotAt f.lots j).ins s = false) ∧ Below W1.heap.size W1 wr) (fun i' _ => f.lots.length - (intOf i').toNat)
 case atStart => exact ⟨0, by omega, rfl, fun j hj => by omega, Below.refl _ _⟩
 case round =>
  obtain ⟨k, hk, rfl, hnk, hb1⟩ := hrel
  have HNK := Lib.hid hnk
  have HB1 := Lib.hid hb1
  have HBR : Hid (Below w.heap.size w wr) := Lib.hid (HW1.out.trans (hb1.mono HW1.out.size))
  have HX := Lib.hid (HX1.out.ext hb1)
  obtain ⟨z1, r1⟩ := HX.out
  clear hb1 hnk
  by_cases hlt : k < f.lots.length
  ·obtain rfl : a = some ⟨b, off, none⟩ := by rcases HA.out with h | h; exact h; omega
   obtain ⟨vi, vk, vp, q1, q2, q3, hli, rfl, hlp⟩ := HC.out k hlt
   obtain ⟨bi, oi, ci, ⟨ai, rfl, hci1, hci2, hai⟩, hil, hiz, hic⟩ := hli
   have hbk := lotsB_lot HLT.out hlt
   have HBK := Lib.hid hbk
   have HIC := Lib.hid hic
   have HAI := Lib.hid hai
   have HLP := Lib.hid hlp
   have HQ3 := Lib.hid q3
   have hB0 := HBB.out k hk
   have hB1 := HBB.out (k + 1) (by omega)
   have hB2 : beforeI f (k + 1) = beforeI f k + (lotAt f.lots k).ins.length := rfl
   rw [hB2] at hB1
   have HKB : Hid (∀ W', Below w.heap.size w W' → W'.cell? ⟨b, off + k * 3, none⟩ = some (.slice ai (lotAt f.lots k).ins.length ci) ∧ W'.cell? ⟨b, off + k * 3 + 1, none⟩ = some (.bool (lotAt f.lots k).known)) := Lib.hid fun W' hW' => ⟨(q1.below hW' hB).2, (q2.below hW' hB).2⟩
   have HA2 := Lib.hid (fun q => HAT.out k q hlt HNK.out)
   clear hic hai hiz hB2 q1 q2 q3 hlp hbk
   go_wp2_with fail
   refine (before_any B _ _ _ f k (HF.out.below HBR.out hB) (Nat.le_trans hB HBR.out.size) (by omega) (by omega) (by omega)).mono ?_
   rintro en WA ⟨rfl, hb2⟩
   have HBA : Hid (Below w.heap.size w WA) := Lib.hid (HBR.out.trans (hb2.mono HBR.out.size))
   have HB1A : Hid (Below W1.heap.size W1 WA) := Lib.hid (HB1.out.trans (hb2.mono HB1.out.size))
   have HXA := Lib.hid (HX.out.ext hb2)
   clear hb2 r1 z1
   go_wp2
   go_loopw [9] (fun i' wr => ∃ q : Nat, q ≤ (lotAt f.lots k).ins.length ∧ i' = .int .i64 q ∧ (∀ j, j < q → nth (lotAt f.lots k).ins j ≠ s) ∧ Below WA.heap.size WA wr) (fun i' _ => (lotAt f.lots k).ins.length - (intOf i').toNat)
   case atStart => exact ⟨0, by omega, rfl, fun j hj => by omega, Below.refl _ _⟩
   case round =>
    obtain ⟨q, hq, rfl, hnq, hbq⟩ := hrel
    have HNQ := Lib.hid hnq
    have HBQ := Lib.hid hbq
    have HBQ2 : Hid (Below w.heap.size w wr) := Lib.hid (HBA.out.trans (hbq.mono HBA.out.size))
    have HXQ := Lib.hid (HXA.out.ext hbq)
    obtain ⟨z3, r3⟩ := HXQ.out
    obtain ⟨x0, x1⟩ := HKB.out _ HBQ2.out
    clear hbq hnq
    by_cases hlq : q < (lotAt f.lots k).ins.length
    ·obtain rfl : ai = some ⟨bi, oi, none⟩ := by rcases HAI.out with h | h; exact h; omega
     have hcq := (HBQ2.out.cell (p := ⟨bi, oi + q, none⟩) (by have := (HIC.out q hlq).1; show bi < _; omega)).trans (HIC.out q hlq).2
     by_cases he : nth (lotAt f.lots k).ins q = s
     ·have he' : (nth (lotAt f.lots k).ins q == s) = true := beq_iff_eq.2 he
      have HR := Lib.hid (HA2.out q hlq he)
      have HKM : Hid (f.lots.length ≤ k + m) := Lib.hid (by
       by_cases hm : k + m < f.lots.length
       ·have h1 := HNO.out k hm
        have h2 := hasB_mem.2 (nth_mem' hlq)
        rw [he, h1] at h2
        cases h2
       ·omega)
      obtain ⟨bv, hbv⟩ : ∃ x, beforeI f k = x := ⟨_, rfl⟩
      have HIK : Hid (∀ (W' : World) (s' : Int), Below w.heap.size w W' → bv ≤ s' → Calls Try.prog 70 #[.agg #[.int .i64 f.senders, .slice (some ⟨b, off, none⟩) f.lots.length cap], .int .i64 s', .int .i64 e] W' fun en w' => en = .returned (.bool (rAt f (k + 1) s' e)) ∧ Below W'.heap.size W' w') := Lib.hid fun W' s' h1 h2 => HIH.out k W' s' hlt HKM.out h1 (by rw [hbv]; exact h2)
      rw [hbv] at HR hB0 hB1 ⊢
      clear hbv he
      cases hkn : (lotAt f.lots k).known
      ·rw [hkn] at x1
       have HR2 : Hid (RV = anyN (fun p => rAt f (k + 1) (bv + p) e) (lotAt f.lots k).ins.length) := Lib.hid (by rw [HR.out, hkn]; rfl)
       have HKB2 : Hid (∀ W', Below w.heap.size w W' → W'.cell? ⟨b, off + k * 3, none⟩ = some (.slice (some ⟨bi, oi, none⟩) (lotAt f.lots k).ins.length ci)) := Lib.hid fun W' hW' => (HKB.out W' hW').1
       clear hkn HR
       go_wp2
       obtain ⟨WB, rfl⟩ : ∃ W', W' = wr := ⟨_, rfl⟩
       go_loopw [10] (fun i' wr => ∃ r : Nat, r ≤ (lotAt f.lots k).ins.length ∧ i' = .int .i64 r ∧ (∀ p : Nat, p < r → rAt f (k + 1) (bv + p) e = false) ∧ Below WB.heap.size WB wr) (fun i' _ => (lotAt f.lots k).ins.length - (intOf i').toNat)
       case atStart => exact ⟨0, by omega, rfl, fun j hj => by omega, Below.refl _ _⟩
       case round =>
        obtain ⟨r, hr, rfl, hnr, hbr⟩ := hrel
        have HNR := Lib.hid hnr
        have HB3 := Lib.hid hbr
        have HB4 : Hid (Below w.heap.size w wr) := Lib.hid (HBQ2.out.trans (hbr.mono HBQ2.out.size))
        have HX4 := Lib.hid (HXQ.out.ext hbr)
        clear r3 z3 x0 x1 hbr hnr hcq
        obtain ⟨z4, r4⟩ := HX4.out
        have x2 := HKB2.out _ HB4.out
        have hw1 : IntKind.i64.wrap (bv + (r : Int)) = bv + r := by rw [IntWalk.i64_in _ (by omega)]
        by_cases hlr : r < (lotAt f.lots k).ins.length
        ·go_wp2_with fail
         refine (HIK.out _ _ HB4.out (by omega)).mono ?_
         rintro en WC ⟨rfl, hb5⟩
         have HBC := Lib.hid (HB3.out.trans (hb5.mono HB3.out.size))
         have HBC2 := Lib.hid (HB4.out.trans (hb5.mono HB4.out.size))
         clear hb5
         cases hrv : rAt f (k + 1) (bv + r) e
         ·have HRF := Lib.hid hrv
          clear hrv
          go_wp2
          go_roundw
          case rel => exact ⟨r + 1, by omega, by go_num, fun p hp => by by_cases e' : p = r; (subst e'; exact HRF.out); exact HNR.out p (by omega), HBC.out⟩
          case measure => simp [intOf]; omega
         ·have HRT : Hid (RV = true) := Lib.hid (by rw [HR2.out]; exact anyN_iff.2 ⟨r, hlr, hrv⟩)
          clear hrv
          go_wp2
          go_ret
          exact ⟨by rw [HRT.out]; rfl, HBC2.out⟩
        ·obtain rfl : r = (lotAt f.lots k).ins.length := by omega
         have HRT : Hid (RV = false) := Lib.hid (by rw [HR2.out]; exact anyN_no HNR.out)
         go_wp2
         go_ret
         exact ⟨by rw [HRT.out]; rfl, HB4.out⟩
      ·rw [hkn] at x1
       obtain ⟨bp, op, cp, ⟨ap, rfl, hcp1, hcp2, hap⟩, hpl, hpz, hpc⟩ := HLP.out
       have hpm := permB_parts ((lotB_parts HBK.out).2.2.2.1 hkn)
       have hlp : q < (lotAt f.lots k).perm.length := by have := hpm.2.1; omega
       have hg := hpm.1 _ (nth_mem' hlp)
       obtain rfl : ap = some ⟨bp, op, none⟩ := by rcases hap with h | h; exact h; omega
       have HPC := Lib.hid hpc
       have HR2 : Hid (RV = rAt f (k + 1) (bv + nth (lotAt f.lots k).perm q) e) := Lib.hid (by rw [HR.out, hkn]; rfl)
       obtain ⟨pv, hpv⟩ : ∃ x, nth (lotAt f.lots k).perm q = x := ⟨_, rfl⟩
       have HPQ : Hid (∀ W', Below wr.heap.size wr W' → W'.cell? ⟨b, off + k * 3 + 2, none⟩ = some (.slice (some ⟨bp, op, none⟩) (lotAt f.lots k).perm.length cp) ∧ W'.cell? ⟨bp, op + q, none⟩ = some (.int .i64 pv) ∧ W'.cell? ⟨w.heap.size, 0, none⟩ = some (.int .i64 f.senders) ∧ W'.cell? ⟨w.heap.size, 1, none⟩ = some (.slice (some ⟨b, off, none⟩) f.lots.length cap)) := Lib.hid fun W' hW' => by
        have hWW := HBQ2.out.trans (hW'.mono HBQ2.out.size)
        refine ⟨(HQ3.out.below hWW hB).2, ?_, (HXQ.out.ext hW').2 0, (HXQ.out.ext hW').2 1⟩
        rw [← hpv]
        exact (hWW.cell (p := ⟨bp, op + q, none⟩) (by have := (HPC.out q hlp).1; show bp < _; omega)).trans (HPC.out q hlp).2
       rw [hpv] at HR2 hg
       have HSUM : Hid (IntKind.i64.wrap (bv + pv) = bv + pv) := Lib.hid (by rw [IntWalk.i64_in _ (by omega)])
       have HIC2 : Hid (∀ W', Below wr.heap.size wr W' → Calls Try.prog 70 #[.agg #[.int .i64 f.senders, .slice (some ⟨b, off, none⟩) f.lots.length cap], .int .i64 (bv + pv), .int .i64 e] W' fun en w' => en = .returned (.bool RV) ∧ Below W'.heap.size W' w') := Lib.hid fun W' hW' => by
        rw [HR2.out]
        exact HIK.out W' _ (HBQ2.out.trans (hW'.mono HBQ2.out.size)) (by omega)
       clear hkn hpm hap hpc hpz hpv HR
       obtain ⟨WB, rfl⟩ : ∃ W', W' = wr := ⟨_, rfl⟩
       go_upto_region 10 with fail
       obtain ⟨V, hV⟩ : ∃ V : List (Option Value), V = [some (.agg #[.int .i64 f.senders, .slice (some ⟨b, off, none⟩) f.lots.length cap]), some (.int .i64 bv), some (.pointer (some ⟨w.heap.size, 1, none⟩)), some (.slice (some ⟨b, off, none⟩) f.lots.length cap), some (.int .i64 (k : Int)), some (.pointer (some ⟨b, off + k * 3, none⟩)), some (.pointer (some ⟨b, off + k * 3 + 2, none⟩)), some (.slice (some ⟨bp, op, none⟩) (lotAt f.lots k).perm.length cp), some (.int .i64 (q : Int)), some (.pointer (some ⟨bp, op + q, none⟩)), some (.int .i64 pv), some (.int .i64 (bv + pv)), some (.int .i64 e), some (.bool RV), some (.bool RV)] := ⟨_, rfl⟩
       have HVV := Lib.hid hV
       clear hV
       refine wp_region_V [some 49, some 50, some 51, some 52, some 53, some 54, some 55, some 56, some 57, some 58, some 59, some 60, some 61, some 62, some 6] (fun L w' xs => ValsAt V L xs ∧ (Below WB.heap.size WB w')) (by kernel_rfl) (by kernel_rfl) (by rfl) (by rfl) (by rfl) ?_ ?_ ?_
       focus
        exact fun xs => ⟨ValsAt.none _ _, (Below.refl _ _).drew⟩
       focus
        refine ⟨?_, ?_, ?_, ?_, ?_, ?_, ?_, ?_, ?_, ?_, ?_, ?_, ?_, ?_, ?_, trivial⟩
        all_goals
         intro L a' w' xs hi hd hf hJ K hK
         obtain ⟨hv, hb⟩ := hJ
         have HF := Lib.hid hf
         have HVA := Lib.hid hv
         have HLI := Lib.hid hi
         clear hf hv hi
        focus
         clear hd
         obtain ⟨ρ, hρ⟩ : ∃ ρ, a'.eval = ρ := ⟨_, rfl⟩
         have hcst : ∀ v, ρ (.const v) = v := fun v => (congrFun hρ (.const v)).symm
         have l3 : ρ (.tmp 3) = .pointer (some ⟨w.heap.size, 0, none⟩) := (congrFun hρ (.tmp 3)).symm.trans (HF.out.lo 3 rfl)
         obtain ⟨k0, k1, k2, k3⟩ := HPQ.out _ hb
         rw [if_pos (by simp [Region.wanted])]
         unfold Oper.wp
         rw [hρ]
         clear hρ
         go_simp
         exact hK.out _ _ ⟨HVA.out.set (i := 0) (by rw [HVV.out]; rfl), hb⟩
        focus
         clear hd
         obtain ⟨ρ, hρ⟩ : ∃ ρ, a'.eval = ρ := ⟨_, rfl⟩
         have hcst : ∀ v, ρ (.const v) = v := fun v => (congrFun hρ (.const v)).symm
         have l8 : ρ (.tmp 8) = .int .i64 bv := (congrFun hρ (.tmp 8)).symm.trans (HF.out.lo 8 rfl)
         rw [if_pos (by simp [Region.wanted])]
         unfold Oper.wp
         rw [hρ]
         clear hρ
         go_simp
         exact hK.out _ _ ⟨HVA.out.set (i := 1) (by rw [HVV.out]; rfl), hb⟩
        focus
         clear hd
         obtain ⟨ρ, hρ⟩ : ∃ ρ, a'.eval = ρ := ⟨_, rfl⟩
         have hcst : ∀ v, ρ (.const v) = v := fun v => (congrFun hρ (.const v)).symm
         have l3 : ρ (.tmp 3) = .pointer (some ⟨w.heap.size, 0, none⟩) := (congrFun hρ (.tmp 3)).symm.trans (HF.out.lo 3 rfl)
         rw [if_pos (by simp [Region.wanted])]
         unfold Oper.wp
         rw [hρ]
         clear hρ
         go_simp
         exact hK.out _ _ ⟨HVA.out.set (i := 2) (by rw [HVV.out]; rfl), hb⟩
        focus
         obtain ⟨d2, _⟩ := hd
         obtain ⟨ρ, hρ⟩ : ∃ ρ, a'.eval = ρ := ⟨_, rfl⟩
         have hcst : ∀ v, ρ (.const v) = v := fun v => (congrFun hρ (.const v)).symm
         have v2 : ρ (.tmp 51) = .pointer (some ⟨w.heap.size, 1, none⟩) := (congrFun hρ (.tmp 51)).symm.trans ((HF.out.ev 2 rfl d2).trans (HVA.out 2 _ (by rw [HVV.out]; rfl) d2))
         obtain ⟨k0, k1, k2, k3⟩ := HPQ.out _ hb
         rw [if_pos (by simp [Region.wanted])]
         unfold Oper.wp
         rw [hρ]
         clear hρ
         go_simp
         exact hK.out _ _ ⟨HVA.out.set (i := 3) (by rw [HVV.out]; rfl), hb⟩
        focus
         clear hd
         obtain ⟨ρ, hρ⟩ : ∃ ρ, a'.eval = ρ := ⟨_, rfl⟩
         have hcst : ∀ v, ρ (.const v) = v := fun v => (congrFun hρ (.const v)).symm
         have l7 : ρ (.tmp 7) = .int .i64 (k : Int) := (congrFun hρ (.tmp 7)).symm.trans (HF.out.lo 7 rfl)
         rw [if_pos (by simp [Region.wanted])]
         unfold Oper.wp
         rw [hρ]
         clear hρ
         go_simp
         exact hK.out _ _ ⟨HVA.out.set (i := 4) (by rw [HVV.out]; rfl), hb⟩
        focus
         obtain ⟨d3, d4, _⟩ := hd
         obtain ⟨ρ, hρ⟩ : ∃ ρ, a'.eval = ρ := ⟨_, rfl⟩
         have hcst : ∀ v, ρ (.const v) = v := fun v => (congrFun hρ (.const v)).symm
         have v3 : ρ (.tmp 52) = .slice (some ⟨b, off, none⟩) f.lots.length cap := (congrFun hρ (.tmp 52)).symm.trans ((HF.out.ev 3 rfl d3).trans (HVA.out 3 _ (by rw [HVV.out]; rfl) d3))
         have v4 : ρ (.tmp 53) = .int .i64 (k : Int) := (congrFun hρ (.tmp 53)).symm.trans ((HF.out.ev 4 rfl d4).trans (HVA.out 4 _ (by rw [HVV.out]; rfl) d4))
         rw [if_pos (by simp [Region.wanted])]
         unfold Oper.wp
         rw [hρ]
         clear hρ
         go_simp
         exact hK.out _ _ ⟨HVA.out.set (i := 5) (by rw [HVV.out]; rfl), hb⟩
        focus
         obtain ⟨d5, _⟩ := hd
         obtain ⟨ρ, hρ⟩ : ∃ ρ, a'.eval = ρ := ⟨_, rfl⟩
         have hcst : ∀ v, ρ (.const v) = v := fun v => (congrFun hρ (.const v)).symm
         have v5 : ρ (.tmp 54) = .pointer (some ⟨b, off + k * 3, none⟩) := (congrFun hρ (.tmp 54)).symm.trans ((HF.out.ev 5 rfl d5).trans (HVA.out 5 _ (by rw [HVV.out]; rfl) d5))
         rw [if_pos (by simp [Region.wanted])]
         unfold Oper.wp
         rw [hρ]
         clear hρ
         go_simp
         exact hK.out _ _ ⟨HVA.out.set (i := 6) (by rw [HVV.out]; rfl), hb⟩
        focus
         obtain ⟨d6, _⟩ := hd
         obtain ⟨ρ, hρ⟩ : ∃ ρ, a'.eval = ρ := ⟨_, rfl⟩
         have hcst : ∀ v, ρ (.const v) = v := fun v => (congrFun hρ (.const v)).symm
         have v6 : ρ (.tmp 55) = .pointer (some ⟨b, off + k * 3 + 2, none⟩) := (congrFun hρ (.tmp 55)).symm.trans ((HF.out.ev 6 rfl d6).trans (HVA.out 6 _ (by rw [HVV.out]; rfl) d6))
         obtain ⟨k0, k1, k2, k3⟩ := HPQ.out _ hb
         rw [if_pos (by simp [Region.wanted])]
         unfold Oper.wp
         rw [hρ]
         clear hρ
         go_simp
         exact hK.out _ _ ⟨HVA.out.set (i := 7) (by rw [HVV.out]; rfl), hb⟩
        focus
         clear hd
         obtain ⟨ρ, hρ⟩ : ∃ ρ, a'.eval = ρ := ⟨_, rfl⟩
         have hcst : ∀ v, ρ (.const v) = v := fun v => (congrFun hρ (.const v)).symm
         have l9 : ρ (.tmp 9) = .int .i64 (q : Int) := (congrFun hρ (.tmp 9)).symm.trans (HF.out.lo 9 rfl)
         rw [if_pos (by simp [Region.wanted])]
         unfold Oper.wp
         rw [hρ]
         clear hρ
         go_simp
         exact hK.out _ _ ⟨HVA.out.set (i := 8) (by rw [HVV.out]; rfl), hb⟩
        focus
         obtain ⟨d7, d8, _⟩ := hd
         obtain ⟨ρ, hρ⟩ : ∃ ρ, a'.eval = ρ := ⟨_, rfl⟩
         have hcst : ∀ v, ρ (.const v) = v := fun v => (congrFun hρ (.const v)).symm
         have v7 : ρ (.tmp 56) = .slice (some ⟨bp, op, none⟩) (lotAt f.lots k).perm.length cp := (congrFun hρ (.tmp 56)).symm.trans ((HF.out.ev 7 rfl d7).trans (HVA.out 7 _ (by rw [HVV.out]; rfl) d7))
         have v8 : ρ (.tmp 57) = .int .i64 (q : Int) := (congrFun hρ (.tmp 57)).symm.trans ((HF.out.ev 8 rfl d8).trans (HVA.out 8 _ (by rw [HVV.out]; rfl) d8))
         rw [if_pos (by simp [Region.wanted])]
         unfold Oper.wp
         rw [hρ]
         clear hρ
         go_simp
         exact hK.out _ _ ⟨HVA.out.set (i := 9) (by rw [HVV.out]; rfl), hb⟩
        focus
         obtain ⟨d9, _⟩ := hd
         obtain ⟨ρ, hρ⟩ : ∃ ρ, a'.eval = ρ := ⟨_, rfl⟩
         have hcst : ∀ v, ρ (.const v) = v := fun v => (congrFun hρ (.const v)).symm
         have v9 : ρ (.tmp 58) = .pointer (some ⟨bp, op + q, none⟩) := (congrFun hρ (.tmp 58)).symm.trans ((HF.out.ev 9 rfl d9).trans (HVA.out 9 _ (by rw [HVV.out]; rfl) d9))
         obtain ⟨k0, k1, k2, k3⟩ := HPQ.out _ hb
         rw [if_pos (by simp [Region.wanted])]
         unfold Oper.wp
         rw [hρ]
         clear hρ
         go_simp
         exact hK.out _ _ ⟨HVA.out.set (i := 10) (by rw [HVV.out]; rfl), hb⟩
        focus
         obtain ⟨d1, d10, _⟩ := hd
         obtain ⟨ρ, hρ⟩ : ∃ ρ, a'.eval = ρ := ⟨_, rfl⟩
         have hcst : ∀ v, ρ (.const v) = v := fun v => (congrFun hρ (.const v)).symm
         have v1 : ρ (.tmp 50) = .int .i64 bv := (congrFun hρ (.tmp 50)).symm.trans ((HF.out.ev 1 rfl d1).trans (HVA.out 1 _ (by rw [HVV.out]; rfl) d1))
         have v10 : ρ (.tmp 59) = .int .i64 pv := (congrFun hρ (.tmp 59)).symm.trans ((HF.out.ev 10 rfl d10).trans (HVA.out 10 _ (by rw [HVV.out]; rfl) d10))
         have hsum := HSUM.out
         rw [if_pos (by simp [Region.wanted])]
         unfold Oper.wp
         rw [hρ]
         clear hρ
         go_simp
         exact hK.out _ _ ⟨HVA.out.set (i := 11) (by rw [HVV.out]; rfl), hb⟩
        focus
         clear hd
         obtain ⟨ρ, hρ⟩ : ∃ ρ, a'.eval = ρ := ⟨_, rfl⟩
         have hcst : ∀ v, ρ (.const v) = v := fun v => (congrFun hρ (.const v)).symm
         have l2 : ρ (.tmp 2) = .int .i64 e := (congrFun hρ (.tmp 2)).symm.trans (HF.out.lo 2 rfl)
         rw [if_pos (by simp [Region.wanted])]
         unfold Oper.wp
         rw [hρ]
         clear hρ
         go_simp
         exact hK.out _ _ ⟨HVA.out.set (i := 12) (by rw [HVV.out]; rfl), hb⟩
        focus
         obtain ⟨d0, d11, d12, _⟩ := hd
         obtain ⟨ρ, hρ⟩ : ∃ ρ, a'.eval = ρ := ⟨_, rfl⟩
         have hcst : ∀ v, ρ (.const v) = v := fun v => (congrFun hρ (.const v)).symm
         have hfun : ∀ k, ρ (.func k) = .func (.func k) #[] #[] := fun k => (congrFun hρ (.func k)).symm
         have v0 : ρ (.tmp 49) = .agg #[.int .i64 f.senders, .slice (some ⟨b, off, none⟩) f.lots.length cap] := (congrFun hρ (.tmp 49)).symm.trans ((HF.out.ev 0 rfl d0).trans (HVA.out 0 _ (by rw [HVV.out]; rfl) d0))
         have v11 : ρ (.tmp 60) = .int .i64 (bv + pv) := (congrFun hρ (.tmp 60)).symm.trans ((HF.out.ev 11 rfl d11).trans (HVA.out 11 _ (by rw [HVV.out]; rfl) d11))
         have v12 : ρ (.tmp 61) = .int .i64 e := (congrFun hρ (.tmp 61)).symm.trans ((HF.out.ev 12 rfl d12).trans (HVA.out 12 _ (by rw [HVV.out]; rfl) d12))
         rw [if_pos (by simp [Region.wanted])]
         unfold Oper.wp
         rw [hρ]
         clear hρ
         go_simp
         go_at_call 70
         refine (HIC2.out _ hb).mono ?_
         rintro en w5' ⟨rfl, hb5⟩
         exact hK.out _ _ ⟨HVA.out.set (i := 13) (by rw [HVV.out]; rfl), hb.trans (hb5.mono hb.size)⟩
        focus
         obtain ⟨d13, _, d0, d1, d2, d3, d4, d5, d6, d7, d8, d9, d10, d11, d12, _, _⟩ := hd
         obtain ⟨ρ, hρ⟩ : ∃ ρ, a'.eval = ρ := ⟨_, rfl⟩
         have hcst : ∀ v, ρ (.const v) = v := fun v => (congrFun hρ (.const v)).symm
         have v13 : ρ (.tmp 62) = .bool RV := (congrFun hρ (.tmp 62)).symm.trans ((HF.out.ev 13 rfl d13).trans (HVA.out 13 _ (by rw [HVV.out]; rfl) d13))
         rw [if_pos (by simp [Region.wanted])]
         unfold Oper.wp
         rw [hρ]
         clear hρ
         go_simp
         exact hK.out _ _ ⟨HVA.out.set (i := 14) (by rw [HVV.out]; rfl), hb⟩
       focus
        intro L w' xs hL hJ
        obtain ⟨hv, hb⟩ := hJ
        have e0 : xs 0 = .agg #[.int .i64 f.senders, .slice (some ⟨b, off, none⟩) f.lots.length cap] := hv 0 _ (by rw [HVV.out]; rfl) (hL 0 (by decide))
        have e1 : xs 1 = .int .i64 bv := hv 1 _ (by rw [HVV.out]; rfl) (hL 1 (by decide))
        have e2 : xs 2 = .pointer (some ⟨w.heap.size, 1, none⟩) := hv 2 _ (by rw [HVV.out]; rfl) (hL 2 (by decide))
        have e3 : xs 3 = .slice (some ⟨b, off, none⟩) f.lots.length cap := hv 3 _ (by rw [HVV.out]; rfl) (hL 3 (by decide))
        have e4 : xs 4 = .int .i64 (k : Int) := hv 4 _ (by rw [HVV.out]; rfl) (hL 4 (by decide))
        have e5 : xs 5 = .pointer (some ⟨b, off + k * 3, none⟩) := hv 5 _ (by rw [HVV.out]; rfl) (hL 5 (by decide))
        have e6 : xs 6 = .pointer (some ⟨b, off + k * 3 + 2, none⟩) := hv 6 _ (by rw [HVV.out]; rfl) (hL 6 (by decide))
        have e7 : xs 7 = .slice (some ⟨bp, op, none⟩) (lotAt f.lots k).perm.length cp := hv 7 _ (by rw [HVV.out]; rfl) (hL 7 (by decide))
        have e8 : xs 8 = .int .i64 (q : Int) := hv 8 _ (by rw [HVV.out]; rfl) (hL 8 (by decide))
        have e9 : xs 9 = .pointer (some ⟨bp, op + q, none⟩) := hv 9 _ (by rw [HVV.out]; rfl) (hL 9 (by decide))
        have e10 : xs 10 = .int .i64 pv := hv 10 _ (by rw [HVV.out]; rfl) (hL 10 (by decide))
        have e11 : xs 11 = .int .i64 (bv + pv) := hv 11 _ (by rw [HVV.out]; rfl) (hL 11 (by decide))
        have e12 : xs 12 = .int .i64 e := hv 12 _ (by rw [HVV.out]; rfl) (hL 12 (by decide))
        have e13 : xs 13 = .bool RV := hv 13 _ (by rw [HVV.out]; rfl) (hL 13 (by decide))
        have e14 : xs 14 = .bool RV := hv 14 _ (by rw [HVV.out]; rfl) (hL 14 (by decide))
        simp only [putGo, Act.put, List.setIfInBounds_toArray, List.set_cons_zero, List.set_cons_succ, e0, e1, e2, e3, e4, e5, e6, e7, e8, e9, e10, e11, e12, e13, e14]
        clear hv e0 e1 e2 e3 e4 e5 e6 e7 e8 e9 e10 e11 e12 e13 e14
        obtain ⟨WC, rfl⟩ : ∃ W', W' = w' := ⟨_, rfl⟩
        have HBC := Lib.hid (HBQ2.out.trans (hb.mono HBQ2.out.size))
        clear hb hL
        go_wp2
        go_ret
        exact ⟨rfl, HBC.out⟩
     ·have he' : (nth (lotAt f.lots k).ins q == s) = false := beq_eq_false_iff_ne.2 he
      have HNE := Lib.hid he
      clear he
      go_wp2
      go_roundw
      case rel => exact ⟨q + 1, by omega, by go_num, fun j hj => by by_cases e' : j = q; (subst e'; exact HNE.out); exact HNQ.out j (by omega), HBQ.out⟩
      case measure => simp [intOf]; omega
    ·obtain rfl : q = (lotAt f.lots k).ins.length := by omega
     go_wp2
     go_roundw
     case rel => exact ⟨k + 1, by omega, by go_num, fun j hj => by by_cases e' : j = k; (subst e'; exact has_not HNQ.out); exact HNK.out j (by omega), HB1A.out.trans (HBQ.out.mono HB1A.out.size)⟩
     case measure => simp [intOf]; omega
  ·obtain rfl : k = f.lots.length := by omega
   have HE := Lib.hid (HEN.out HNK.out)
   go_wp2
   go_ret
   exact ⟨by rw [HE.out]; rfl, HBR.out⟩
/-- frankingref29.Reaches -/
theorem reach29_any : ∀ (m B : Nat) (w : World) (vs vl : Value) (f : Flow) (s e : Int), IsFlow B w vs vl f → B ≤ w.heap.size → checkE f = 0 → (∀ j, j + m < f.lots.length → hasB (lotAt f.lots j).ins s = false) →
  Calls Try.prog 70 #[.agg #[vs, vl], .int .i64 s, .int .i64 e] w fun en w' => en = .returned (.bool (rAt f 0 s e)) ∧ Below w.heap.size w w' := by
 intro m
 induction m with
 | zero => exact fun B w vs vl f s e hf hB hck hno => reach29_step B w vs vl f s e 0 hf hB hck hno (fun k _ _ h1 h2 => by omega)
 | succ m ih =>
  intro B w vs vl f s e hf hB hck hno
  refine reach29_step B w vs vl f s e (m + 1) hf hB hck hno (fun k W' s' h1 h2 h3 h4 => ?_)
  have hl := (checkE_ok hck).2.2.2.2
  rw [← rAt_out hl h1 h4 e]
  exact ih B W' vs vl f s' e (hf.below h3 hB) (Nat.le_trans hB h3.size) hck (fun j hj => not_in hl h4 (by omega) (by omega))
theorem reach29 (B : Nat) (w : World) (vs vl : Value) (f : Flow) (s e : Int) (hf : IsFlow B w vs vl f) (hB : B ≤ w.heap.size) (hck : checkE f = 0) :
  Calls Try.prog 70 #[.agg #[vs, vl], .int .i64 s, .int .i64 e] w fun en w' => en = .returned (.bool (rAt f 0 s e)) ∧ Below w.heap.size w w' :=
 reach29_any f.lots.length B w vs vl f s e hf hB hck (fun j hj => by omega)
end Go.Proofs.Yteiaeaciaglmgaa
set_option linter.unusedVariables false
set_option linter.unusedSimpArgs false
namespace Go.Proofs.Yteiaeaciaglmgaa
open Go.RowKit
theorem leastN_first {p : Nat → Bool} {n i : Nat} (hi : i < n) (hn : ∀ j, j < i → p j = false) (hp : p i = true) : leastN p n = i := by
 by_cases h : 0 ≤ leastN p n
 ·obtain ⟨j, h1, h2, h3, h4⟩ := leastN_pos h
  rw [h1]
  by_cases e : j < i
  ·rw [hn j e] at h3; cases h3
  ·by_cases e2 : i < j
   ·rw [h4 i e2] at hp; cases hp
   ·have : j = i := by omega
    rw [this]
 ·rw [leastN_neg (p := p) (n := n) (by omega) i hi] at hp; cases hp
theorem leastN_none {p : Nat → Bool} {n : Nat} (hn : ∀ j, j < n → p j = false) : leastN p n = -1 := by
 by_cases h : 0 ≤ leastN p n
 ·obtain ⟨j, h1, h2, h3, h4⟩ := leastN_pos h
  rw [hn j h2] at h3; cases h3
 ·have := (leastN_bd p n).1
  omega
set_option maxHeartbeats 4000000 in
set_option maxRecDepth 100000 in
/-- frankingref29.stuck -/
theorem stuck29_any (B : Nat) (w : World) (vs vl va vW vP : Value) (f : Flow) (zs : List Int) (W : List (List Int)) (part : List Int) (hf : IsFlow B w vs vl f) (hz : IsInts B w va zs) (hW : IsMat B w vW W) (hp : IsInts B w vP part) (hB : B ≤ w.heap.size) (hck : checkE f = 0) (hzl : (zs.length : Int) = f.senders) (hso : StOk f W part) :
  Calls Try.prog 67 #[.agg #[vs, vl], va, .agg #[vW, vP]] w fun e w' => e = .returned (.int .i64 (stuckI f zs W part)) ∧ Below w.heap.size w w' := by
 have HF := Lib.hid hf
 have HWM := Lib.hid hW
 have HPT := Lib.hid hp
 have HCK := Lib.hid hck
 have HSO := Lib.hid hso
 obtain ⟨h0, h64, _, _, _⟩ := checkE_ok hck
 obtain ⟨rfl, ⟨hs1, hs2⟩, hl⟩ := hf
 obtain ⟨b, off, cap, ⟨a, rfl, hcap, hmax, ha⟩, hlen, hc⟩ := hl
 obtain ⟨bz, oz, cz, ⟨az, rfl, hcz1, hcz2, haz⟩, hzl2, hz64, hzc⟩ := hz
 obtain ⟨bw, ow, cw, ⟨aw, rfl, _⟩, _⟩ := hW
 obtain ⟨apt, cpt, rfl⟩ := hp.form
 have HZC := Lib.hid hzc
 have HAZ := Lib.hid haz
 have HZL := Lib.hid hzl
 have HFI : Hid (∀ i, i < f.senders.toNat → (∀ j, j < i → badB f zs W part j = false) → badB f zs W part i = true → stuckI f zs W part = i) := Lib.hid fun i h1 h2 h3 => leastN_first h1 h2 h3
 have HNO : Hid ((∀ j, j < f.senders.toNat → badB f zs W part j = false) → stuckI f zs W part = -1) := Lib.hid fun h1 => leastN_none h1
 have HBE : Hid (∀ i, badB f zs W part i = !rAt f 0 (posS f W part i) (nth zs i)) := Lib.hid fun i => rfl
 obtain ⟨RV, hRV⟩ : ∃ R, stuckI f zs W part = R := ⟨_, rfl⟩
 rw [hRV] at HFI HNO ⊢
 clear ha hc hp haz hzc hck hso hzl hRV hz64
 go_enter Try.func67, Try.ntmps67
 go_upto_region 1 with fail
 refine wp_name (fun W1 hW1 => ?_)
 have HX1 : Hid (Box W1 w.heap.size #[.int .i64 f.senders, .slice a f.lots.length cap]) := Lib.hid (by rw [hW1]; exact (Box.new w #[.int .i64 f.senders, .slice a f.lots.length cap] 24).alloc _)
 have HY1 : Hid (Box W1 (w.heap.size + 1) #[.slice aw W.length cw, .slice apt part.length cpt]) := Lib.hid (by
  rw [hW1]
  have h := Box.new (w.alloc (.cells #[.int .i64 f.senders, .slice a f.lots.length cap] 24)) #[.slice aw W.length cw, .slice apt part.length cpt] 82
  rw [World.size_alloc] at h
  exact h)
 have HW1 : Hid (Below w.heap.size w W1) := Lib.hid (by rw [hW1]; exact (box_below' w _).trans ((box_below' _ _).mono (by simp)))
 clear hW1
 go_wp2
 go_loopw [7] (fun i' wr => ∃ i : Nat, i ≤ f.senders.toNat ∧ i' = .int .i64 i ∧ (∀ j, j < i → badB f zs W part j = false) ∧ Below W1.heap.size W1 wr) (fun i' _ => f.senders.toNat - (intOf i').toNat)
 case atStart => exact ⟨0, by omega, rfl, fun j hj => by omega, Below.refl _ _⟩
 case round =>
  obtain ⟨i, hi, rfl, hnb, hb1⟩ := hrel
  have HNB := Lib.hid hnb
  have HB1 := Lib.hid hb1
  have HBR : Hid (Below w.heap.size w wr) := Lib.hid (HW1.out.trans (hb1.mono HW1.out.size))
  have HX := Lib.hid (HX1.out.ext hb1)
  obtain ⟨z1, r1⟩ := HX.out
  clear hb1 hnb
  by_cases hlt : (i : Int) < f.senders
  ·have hiz : i < zs.length := by have := HZL.out; omega
   obtain rfl : az = some ⟨bz, oz, none⟩ := by rcases HAZ.out with h | h; exact h; omega
   have HKQ : Hid (∀ W', Below wr.heap.size wr W' → W'.cell? ⟨bz, oz + i, none⟩ = some (.int .i64 (nth zs i)) ∧ W'.cell? ⟨w.heap.size, 0, none⟩ = some (.int .i64 f.senders) ∧ W'.cell? ⟨w.heap.size, 1, none⟩ = some (.slice a f.lots.length cap) ∧ W'.cell? ⟨w.heap.size + 1, 0, none⟩ = some (.slice aw W.length cw) ∧ W'.cell? ⟨w.heap.size + 1, 1, none⟩ = some (.slice apt part.length cpt)) := Lib.hid fun W' hW' => by
    have hWW := HBR.out.trans (hW'.mono HBR.out.size)
    have hY := (HY1.out.ext (HB1.out.trans (hW'.mono HB1.out.size)))
    exact ⟨(hWW.cell (p := ⟨bz, oz + i, none⟩) (by have := (HZC.out i hiz).1; show bz < _; omega)).trans (HZC.out i hiz).2, (HX.out.ext hW').2 0, (HX.out.ext hW').2 1, hY.2 0, hY.2 1⟩
   have HPL : Hid (∀ W', Below wr.heap.size wr W' → Calls Try.prog 71 #[.agg #[.int .i64 f.senders, .slice a f.lots.length cap], .agg #[.slice aw W.length cw, .slice apt part.length cpt], .int .i64 (i : Int)] W' fun e w' => e = .returned (.int .i64 (posS f W part i)) ∧ Below W'.heap.size W' w') := Lib.hid fun W' hW' => by
    have hWW := HBR.out.trans (hW'.mono HBR.out.size)
    exact place29_any B W' _ _ _ _ f W part i (HF.out.below hWW hB) (HWM.out.below hWW hB) (HPT.out.below hWW hB) (Nat.le_trans hB hWW.size) HCK.out HSO.out
   have HRE : Hid (∀ (W' : World) (s e : Int), Below wr.heap.size wr W' → Calls Try.prog 70 #[.agg #[.int .i64 f.senders, .slice a f.lots.length cap], .int .i64 s, .int .i64 e] W' fun en w' => en = .returned (.bool (rAt f 0 s e)) ∧ Below W'.heap.size W' w') := Lib.hid fun W' s e hW' => by
    have hWW := HBR.out.trans (hW'.mono HBR.out.size)
    exact reach29 B W' _ _ f s e (HF.out.below hWW hB) (Nat.le_trans hB hWW.size) HCK.out
   have HBI := Lib.hid (HBE.out i)
   have HFI2 := Lib.hid (HFI.out i (by omega) HNB.out)
   have HREI : Hid (∀ (W' : World), Below wr.heap.size wr W' → Calls Try.prog 70 #[.agg #[.int .i64 f.senders, .slice a f.lots.length cap], .int .i64 (posS f W part i), .int .i64 (nth zs i)] W' fun en w' => en = .returned (.bool (rAt f 0 (posS f W part i) (nth zs i))) ∧ Below W'.heap.size W' w') := Lib.hid fun W' hW' => HRE.out W' _ _ hW'
   obtain ⟨zv, hzv⟩ : ∃ x, nth zs i = x := ⟨_, rfl⟩
   obtain ⟨pv, hpv⟩ : ∃ x, posS f W part i = x := ⟨_, rfl⟩
   rw [hzv] at HKQ HREI HBI
   rw [hpv] at HPL HREI HBI
   obtain ⟨RB, hRB⟩ : ∃ x, rAt f 0 pv zv = x := ⟨_, rfl⟩
   rw [hRB] at HREI HBI
   obtain ⟨WB, rfl⟩ : ∃ W', W' = wr := ⟨_, rfl⟩
   clear hzv hpv hRB
   go_upto_region 4 with fail
   obtain ⟨V, hV⟩ : ∃ V : List (Option Value), V = [some (.agg #[.int .i64 f.senders, .slice a f.lots.length cap]), some (.agg #[.int .i64 f.senders, .slice a f.lots.length cap]), some (.agg #[.slice aw W.length cw, .slice apt part.length cpt]), some (.int .i64 (i : Int)), some (.int .i64 pv), some (.slice (some ⟨bz, oz, none⟩) zs.length cz), some (.int .i64 (i : Int)), some (.pointer (some ⟨bz, oz + i, none⟩)), some (.int .i64 zv), some (.bool RB), some (.bool (!RB))] := ⟨_, rfl⟩
   have HVV := Lib.hid hV
   clear hV
   refine wp_region_V [some 14, some 15, some 16, some 17, some 18, some 19, some 20, some 21, some 22, some 23, some 24] (fun L w' xs => ValsAt V L xs ∧ (Below WB.heap.size WB w')) (by kernel_rfl) (by kernel_rfl) (by rfl) (by rfl) (by rfl) ?_ ?_ ?_
   focus
    exact fun xs => ⟨ValsAt.none _ _, (Below.refl _ _).drew⟩
   focus
    refine ⟨?_, ?_, ?_, ?_, ?_, ?_, ?_, ?_, ?_, ?_, ?_, trivial⟩
    all_goals
     intro L a' w' xs hi hd hf hJ K hK
     obtain ⟨hv, hb⟩ := hJ
     have HF := Lib.hid hf
     have HVA := Lib.hid hv
     have HLI := Lib.hid hi
     clear hf hv hi
    focus
     clear hd
     obtain ⟨ρ, hρ⟩ : ∃ ρ, a'.eval = ρ := ⟨_, rfl⟩
     have hcst : ∀ v, ρ (.const v) = v := fun v => (congrFun hρ (.const v)).symm
     have l3 : ρ (.tmp 3) = .pointer (some ⟨w.heap.size, 0, none⟩) := (congrFun hρ (.tmp 3)).symm.trans (HF.out.lo 3 rfl)
     obtain ⟨k0, k1, k2, k3, k4⟩ := HKQ.out _ hb
     rw [if_pos (by simp [Region.wanted])]
     unfold Oper.wp
     rw [hρ]
     clear hρ
     go_simp
     exact hK.out _ _ ⟨HVA.out.set (i := 0) (by rw [HVV.out]; rfl), hb⟩
    focus
     clear hd
     obtain ⟨ρ, hρ⟩ : ∃ ρ, a'.eval = ρ := ⟨_, rfl⟩
     have hcst : ∀ v, ρ (.const v) = v := fun v => (congrFun hρ (.const v)).symm
     have l3 : ρ (.tmp 3) = .pointer (some ⟨w.heap.size, 0, none⟩) := (congrFun hρ (.tmp 3)).symm.trans (HF.out.lo 3 rfl)
     obtain ⟨k0, k1, k2, k3, k4⟩ := HKQ.out _ hb
     rw [if_pos (by simp [Region.wanted])]
     unfold Oper.wp
     rw [hρ]
     clear hρ
     go_simp
     exact hK.out _ _ ⟨HVA.out.set (i := 1) (by rw [HVV.out]; rfl), hb⟩
    focus
     clear hd
     obtain ⟨ρ, hρ⟩ : ∃ ρ, a'.eval = ρ := ⟨_, rfl⟩
     have hcst : ∀ v, ρ (.const v) = v := fun v => (congrFun hρ (.const v)).symm
     have l5 : ρ (.tmp 5) = .pointer (some ⟨w.heap.size + 1, 0, none⟩) := (congrFun hρ (.tmp 5)).symm.trans (HF.out.lo 5 rfl)
     obtain ⟨k0, k1, k2, k3, k4⟩ := HKQ.out _ hb
     rw [if_pos (by simp [Region.wanted])]
     unfold Oper.wp
     rw [hρ]
     clear hρ
     go_simp
     exact hK.out _ _ ⟨HVA.out.set (i := 2) (by rw [HVV.out]; rfl), hb⟩
    focus
     clear hd
     obtain ⟨ρ, hρ⟩ : ∃ ρ, a'.eval = ρ := ⟨_, rfl⟩
     have hcst : ∀ v, ρ (.const v) = v := fun v => (congrFun hρ (.const v)).symm
     have l7 : ρ (.tmp 7) = .int .i64 (i : Int) := (congrFun hρ (.tmp 7)).symm.trans (HF.out.lo 7 rfl)
     rw [if_pos (by simp [Region.wanted])]
     unfold Oper.wp
     rw [hρ]
     clear hρ
     go_simp
     exact hK.out _ _ ⟨HVA.out.set (i := 3) (by rw [HVV.out]; rfl), hb⟩
    focus
     obtain ⟨d1, d2, d3, _⟩ := hd
     obtain ⟨ρ, hρ⟩ : ∃ ρ, a'.eval = ρ := ⟨_, rfl⟩
     have hcst : ∀ v, ρ (.const v) = v := fun v => (congrFun hρ (.const v)).symm
     have hfun : ∀ k, ρ (.func k) = .func (.func k) #[] #[] := fun k => (congrFun hρ (.func k)).symm
     have v1 : ρ (.tmp 15) = .agg #[.int .i64 f.senders, .slice a f.lots.length cap] := (congrFun hρ (.tmp 15)).symm.trans ((HF.out.ev 1 rfl d1).trans (HVA.out 1 _ (by rw [HVV.out]; rfl) d1))
     have v2 : ρ (.tmp 16) = .agg #[.slice aw W.length cw, .slice apt part.length cpt] := (congrFun hρ (.tmp 16)).symm.trans ((HF.out.ev 2 rfl d2).trans (HVA.out 2 _ (by rw [HVV.out]; rfl) d2))
     have v3 : ρ (.tmp 17) = .int .i64 (i : Int) := (congrFun hρ (.tmp 17)).symm.trans ((HF.out.ev 3 rfl d3).trans (HVA.out 3 _ (by rw [HVV.out]; rfl) d3))
     rw [if_pos (by simp [Region.wanted])]
     unfold Oper.wp
     rw [hρ]
     clear hρ
     go_simp
     go_at_call 71
     refine (HPL.out _ hb).mono ?_
     rintro en w5' ⟨rfl, hb5⟩
     exact hK.out _ _ ⟨HVA.out.set (i := 4) (by rw [HVV.out]; rfl), hb.trans (hb5.mono hb.size)⟩
    focus
     clear hd
     obtain ⟨ρ, hρ⟩ : ∃ ρ, a'.eval = ρ := ⟨_, rfl⟩
     have hcst : ∀ v, ρ (.const v) = v := fun v => (congrFun hρ (.const v)).symm
     have l1 : ρ (.tmp 1) = .slice (some ⟨bz, oz, none⟩) zs.length cz := (congrFun hρ (.tmp 1)).symm.trans (HF.out.lo 1 rfl)
     rw [if_pos (by simp [Region.wanted])]
     unfold Oper.wp
     rw [hρ]
     clear hρ
     go_simp
     exact hK.out _ _ ⟨HVA.out.set (i := 5) (by rw [HVV.out]; rfl), hb⟩
    focus
     clear hd
     obtain ⟨ρ, hρ⟩ : ∃ ρ, a'.eval = ρ := ⟨_, rfl⟩
     have hcst : ∀ v, ρ (.const v) = v := fun v => (congrFun hρ (.const v)).symm
     have l7 : ρ (.tmp 7) = .int .i64 (i : Int) := (congrFun hρ (.tmp 7)).symm.trans (HF.out.lo 7 rfl)
     rw [if_pos (by simp [Region.wanted])]
     unfold Oper.wp
     rw [hρ]
     clear hρ
     go_simp
     exact hK.out _ _ ⟨HVA.out.set (i := 6) (by rw [HVV.out]; rfl), hb⟩
    focus
     obtain ⟨d5, d6, _⟩ := hd
     obtain ⟨ρ, hρ⟩ : ∃ ρ, a'.eval = ρ := ⟨_, rfl⟩
     have hcst : ∀ v, ρ (.const v) = v := fun v => (congrFun hρ (.const v)).symm
     have v5 : ρ (.tmp 19) = .slice (some ⟨bz, oz, none⟩) zs.length cz := (congrFun hρ (.tmp 19)).symm.trans ((HF.out.ev 5 rfl d5).trans (HVA.out 5 _ (by rw [HVV.out]; rfl) d5))
     have v6 : ρ (.tmp 20) = .int .i64 (i : Int) := (congrFun hρ (.tmp 20)).symm.trans ((HF.out.ev 6 rfl d6).trans (HVA.out 6 _ (by rw [HVV.out]; rfl) d6))
     rw [if_pos (by simp [Region.wanted])]
     unfold Oper.wp
     rw [hρ]
     clear hρ
     go_simp
     exact hK.out _ _ ⟨HVA.out.set (i := 7) (by rw [HVV.out]; rfl), hb⟩
    focus
     obtain ⟨d7, _⟩ := hd
     obtain ⟨ρ, hρ⟩ : ∃ ρ, a'.eval = ρ := ⟨_, rfl⟩
     have hcst : ∀ v, ρ (.const v) = v := fun v => (congrFun hρ (.const v)).symm
     have v7 : ρ (.tmp 21) = .pointer (some ⟨bz, oz + i, none⟩) := (congrFun hρ (.tmp 21)).symm.trans ((HF.out.ev 7 rfl d7).trans (HVA.out 7 _ (by rw [HVV.out]; rfl) d7))
     obtain ⟨k0, k1, k2, k3, k4⟩ := HKQ.out _ hb
     rw [if_pos (by simp [Region.wanted])]
     unfold Oper.wp
     rw [hρ]
     clear hρ
     go_simp
     exact hK.out _ _ ⟨HVA.out.set (i := 8) (by rw [HVV.out]; rfl), hb⟩
    focus
     obtain ⟨d0, d4, d8, _, _⟩ := hd
     obtain ⟨ρ, hρ⟩ : ∃ ρ, a'.eval = ρ := ⟨_, rfl⟩
     have hcst : ∀ v, ρ (.const v) = v := fun v => (congrFun hρ (.const v)).symm
     have hfun : ∀ k, ρ (.func k) = .func (.func k) #[] #[] := fun k => (congrFun hρ (.func k)).symm
     have v0 : ρ (.tmp 14) = .agg #[.int .i64 f.senders, .slice a f.lots.length cap] := (congrFun hρ (.tmp 14)).symm.trans ((HF.out.ev 0 rfl d0).trans (HVA.out 0 _ (by rw [HVV.out]; rfl) d0))
     have v4 : ρ (.tmp 18) = .int .i64 pv := (congrFun hρ (.tmp 18)).symm.trans ((HF.out.ev 4 rfl d4).trans (HVA.out 4 _ (by rw [HVV.out]; rfl) d4))
     have v8 : ρ (.tmp 22) = .int .i64 zv := (congrFun hρ (.tmp 22)).symm.trans ((HF.out.ev 8 rfl d8).trans (HVA.out 8 _ (by rw [HVV.out]; rfl) d8))
     rw [if_pos (by simp [Region.wanted])]
     unfold Oper.wp
     rw [hρ]
     clear hρ
     go_simp
     go_at_call 70
     refine (HREI.out _ hb).mono ?_
     rintro en w5' ⟨rfl, hb5⟩
     exact hK.out _ _ ⟨HVA.out.set (i := 9) (by rw [HVV.out]; rfl), hb.trans (hb5.mono hb.size)⟩
    focus
     obtain ⟨d9, _⟩ := hd
     obtain ⟨ρ, hρ⟩ : ∃ ρ, a'.eval = ρ := ⟨_, rfl⟩
     have hcst : ∀ v, ρ (.const v) = v := fun v => (congrFun hρ (.const v)).symm
     have v9 : ρ (.tmp 23) = .bool RB := (congrFun hρ (.tmp 23)).symm.trans ((HF.out.ev 9 rfl d9).trans (HVA.out 9 _ (by rw [HVV.out]; rfl) d9))
     rw [if_pos (by simp [Region.wanted])]
     unfold Oper.wp
     rw [hρ]
     clear hρ
     go_simp
     exact hK.out _ _ ⟨HVA.out.set (i := 10) (by rw [HVV.out]; rfl), hb⟩
   focus
    intro L w' xs hL hJ
    obtain ⟨hv, hb⟩ := hJ
    have e0 : xs 0 = .agg #[.int .i64 f.senders, .slice a f.lots.length cap] := hv 0 _ (by rw [HVV.out]; rfl) (hL 0 (by decide))
    have e1 : xs 1 = .agg #[.int .i64 f.senders, .slice a f.lots.length cap] := hv 1 _ (by rw [HVV.out]; rfl) (hL 1 (by decide))
    have e2 : xs 2 = .agg #[.slice aw W.length cw, .slice apt part.length cpt] := hv 2 _ (by rw [HVV.out]; rfl) (hL 2 (by decide))
    have e3 : xs 3 = .int .i64 (i : Int) := hv 3 _ (by rw [HVV.out]; rfl) (hL 3 (by decide))
    have e4 : xs 4 = .int .i64 pv := hv 4 _ (by rw [HVV.out]; rfl) (hL 4 (by decide))
    have e5 : xs 5 = .slice (some ⟨bz, oz, none⟩) zs.length cz := hv 5 _ (by rw [HVV.out]; rfl) (hL 5 (by decide))
    have e6 : xs 6 = .int .i64 (i : Int) := hv 6 _ (by rw [HVV.out]; rfl) (hL 6 (by decide))
    have e7 : xs 7 = .pointer (some ⟨bz, oz + i, none⟩) := hv 7 _ (by rw [HVV.out]; rfl) (hL 7 (by decide))
    have e8 : xs 8 = .int .i64 zv := hv 8 _ (by rw [HVV.out]; rfl) (hL 8 (by decide))
    have e9 : xs 9 = .bool RB := hv 9 _ (by rw [HVV.out]; rfl) (hL 9 (by decide))
    have e10 : xs 10 = .bool (!RB) := hv 10 _ (by rw [HVV.out]; rfl) (hL 10 (by decide))
    simp only [putGo, Act.put, List.setIfInBounds_toArray, List.set_cons_zero, List.set_cons_succ, e0, e1, e2, e3, e4, e5, e6, e7, e8, e9, e10]
    clear hv e0 e1 e2 e3 e4 e5 e6 e7 e8 e9 e10
    obtain ⟨WC, rfl⟩ : ∃ W', W' = w' := ⟨_, rfl⟩
    have HBC := Lib.hid (HB1.out.trans (hb.mono HB1.out.size))
    have HBC2 := Lib.hid (HBR.out.trans (hb.mono HBR.out.size))
    clear hb hL
    cases RB
    ·have HE := Lib.hid (HFI2.out HBI.out)
     go_wp2
     go_ret
     exact ⟨by rw [HE.out]; rfl, HBC2.out⟩
    ·go_wp2
     go_roundw
     case rel => exact ⟨i + 1, by omega, by go_num, fun j hj => by by_cases e' : j = i; (subst e'; exact HBI.out); exact HNB.out j (by omega), HBC.out⟩
     case measure => simp [intOf]; omega
  ·obtain rfl : i = f.senders.toNat := by omega
   have HE := Lib.hid (HNO.out HNB.out)
   have hlt2 : ¬ f.senders < f.senders := by omega
   have hto : (f.senders.toNat : Int) = f.senders := by omega
   go_wp2
   go_ret
   exact ⟨by rw [HE.out]; rfl, HBR.out⟩
end Go.Proofs.Yteiaeaciaglmgaa
set_option linter.unusedVariables false
set_option linter.unusedSimpArgs false
namespace Go.Proofs.Yteiaeaciaglmgaa
open Go.RowKit
theorem yielded_of {ops : Array Oper} {tmps : Array Value} {j d : Nat} {b : Bool} (hd : (ops[j]?).bind (·.dst) = some d) (h : tmps.getD d undef = .bool b) : yielded ops tmps j = some b := by
 have h1 : tmps[d]? = some (.bool b) := by
  rw [Array.getD_eq_getD_getElem?] at h
  cases e : tmps[d]? with
  | none => rw [e] at h; cases h
  | some v => rw [e] at h; simp at h; rw [h]
 unfold yielded
 rw [hd]
 simp [h1]
theorem wanted_yes {ops : Array Oper} {tmps : Array Value} {o : Oper} {j d : Nat} {b : Bool} (hg : o.guard = some (j, b)) (hd : (ops[j]?).bind (·.dst) = some d) (h : tmps.getD d undef = .bool b) : Region.wanted o (yielded ops tmps) = true := by
 unfold Region.wanted
 rw [hg]
 simp only
 rw [yielded_of hd h]
 simp
def LK : Nat := 2932031007402
theorem den_inf : (Try.prog.info? 31).map (fun i => (i.zero, i.size, i.bytes)) = some (some (.agg #[.int .i64 0, .int .i64 0, .slice none 0 0, .int .i64 0]), 4, 48) := by kernel_rfl
/-- the cells read as a denial; all that they lead to lies in blocks of S -/
inductive DenS (S : Nat → Prop) (w : World) : List Value → Den → Prop
 | mk (l i s : Int) (kids : List Den) (vk : Value) (b off cap : Nat) (cs : Nat → List Value) (h1 : SliceV vk kids.length b off cap) (hL : kids.length ≤ LK) (hl : I64 l) (hi : I64 i) (hs : I64 s)
   (hc : ∀ j, j < kids.length → S b ∧ ∀ q u, (cs j)[q]? = some u → w.cell? ⟨b, off + j * 4 + q, none⟩ = some u)
   (hk : ∀ j, j < kids.length → DenS S w (cs j) (denAt kids j)) : DenS S w [.int .i64 l, .int .i64 i, vk, .int .i64 s] (.mk l i kids s)
theorem DenS.keep {S : Nat → Prop} {w w' : World} {c : List Value} {d : Den} (h : DenS S w c d) (hk : ∀ q, S q → w'.heap[q]? = w.heap[q]?) : DenS S w' c d := by
 induction h with
 | mk l i s kids vk b off cap cs h1 hL hl hi hs hc _ ih =>
  exact .mk l i s kids vk b off cap cs h1 hL hl hi hs (fun j hj => ⟨(hc j hj).1, fun q u hq => (World.cell?_of_block (a := ⟨b, off + j * 4 + q, none⟩) (hk b (hc j hj).1)).trans ((hc j hj).2 q u hq)⟩) ih
theorem DenS.mono {S S' : Nat → Prop} {w : World} {c : List Value} {d : Den} (h : DenS S w c d) (hS : ∀ q, S q → S' q) : DenS S' w c d := by
 induction h with
 | mk l i s kids vk b off cap cs h1 hL hl hi hs hc _ ih =>
  exact .mk l i s kids vk b off cap cs h1 hL hl hi hs (fun j hj => ⟨hS _ (hc j hj).1, (hc j hj).2⟩) ih
/-- what the cells are -/
theorem DenS.form {S : Nat → Prop} {w : World} {c : List Value} {d : Den} (h : DenS S w c d) : ∃ ak ck, c = [.int .i64 d.lot, .int .i64 d.inn, .slice ak d.kids.length ck, .int .i64 d.sender] ∧ I64 d.lot ∧ I64 d.inn ∧ I64 d.sender ∧ d.kids.length ≤ LK ∧
  ∃ b off, (ak = some ⟨b, off, none⟩ ∨ d.kids.length = 0) ∧ ∀ j, j < d.kids.length → S b ∧ ∃ cs, (∀ q u, cs[q]? = some u → w.cell? ⟨b, off + j * 4 + q, none⟩ = some u) ∧ DenS S w cs (denAt d.kids j) := by
 cases h with
 | mk l i s kids vk b off cap cs h1 hL hl hi hs hc hk =>
  obtain ⟨a, rfl, _, _, ha⟩ := h1
  exact ⟨a, cap, rfl, hl, hi, hs, hL, b, off, ha, fun j hj => ⟨(hc j hj).1, cs j, (hc j hj).2, hk j hj⟩⟩
theorem DenS.form6 {S : Nat → Prop} {w : World} {y0 y1 y2 y3 : Value} {d : Den} (h : DenS S w [y0, y1, y2, y3] d) : ∃ l0 l1 ak nk ck l3, y0 = .int .i64 l0 ∧ y1 = .int .i64 l1 ∧ y2 = .slice ak nk ck ∧ y3 = .int .i64 l3 := by
 obtain ⟨ak, ck, e, _⟩ := h.form
 simp only [List.cons.injEq, and_true] at e
 exact ⟨_, _, _, _, _, _, e⟩
theorem denSK : RecS 4 DenS :=
 {len := fun h => by obtain ⟨_, _, rfl, _⟩ := h.form; rfl
  one := fun h u hu => by
   obtain ⟨_, _, rfl, _⟩ := h.form
   simp only [List.mem_cons, List.not_mem_nil, or_false] at hu
   rcases hu with rfl | rfl | rfl | rfl <;> rfl
  keep := fun h hk => h.keep hk }
theorem DenS.zero (S : Nat → Prop) (w : World) : DenS S w [.int .i64 0, .int .i64 0, .slice none 0 0, .int .i64 0] noD :=
 .mk 0 0 0 [] (.slice none 0 0) 0 0 0 (fun _ => []) ⟨none, rfl, Nat.le_refl _, by omega, Or.inr rfl⟩ (by decide) (by unfold I64; omega) (by unfold I64; omega) (by unfold I64; omega) (fun j hj => by simp at hj) (fun j hj => by simp at hj)
theorem DenS.leaf (S : Nat → Prop) (w : World) {i : Int} (hi : I64 i) : DenS S w [.int .i64 (-1), .int .i64 0, .slice none 0 0, .int .i64 i] (leafD i) :=
 .mk (-1) 0 i [] (.slice none 0 0) 0 0 0 (fun _ => []) ⟨none, rfl, Nat.le_refl _, by omega, Or.inr rfl⟩ (by decide) (by unfold I64; omega) (by unfold I64; omega) hi (fun j hj => by simp at hj) (fun j hj => by simp at hj)
/-- a denial with children of the call's own -/
theorem OwnDeep.den {C : Nat} {w : World} {v : Value} {kids : List Den} (h : OwnDeep 31 4 DenS LK default C w v kids) {l i s : Int} (hl : I64 l) (hi : I64 i) (hs : I64 s) :
  DenS (fun q => C ≤ q ∧ q < w.heap.size) w [.int .i64 l, .int .i64 i, v, .int .i64 s] (.mk l i kids s) := by
 have hlt := h.lt
 have hr := h.isRecs denSK (R' := fun B w c d => True) (fun _ _ _ _ _ => trivial)
 obtain ⟨vals, ⟨hl', h1⟩, h2, h3, h4⟩ := h
 have hvl := OwnDeep.vals_len denSK h2 h4
 rcases h1 with ⟨rfl, hn⟩ | ⟨g, cap, cur, rfl, hb, hg, hnc, hcm, hcs, htk⟩
 ·exact .mk l i s kids _ 0 0 0 (fun _ => []) ⟨none, by rw [hn], by omega, by omega, Or.inr hn⟩ h3 hl hi hs (fun j hj => by omega) (fun j hj => by omega)
 ·have hgl := (Array.getElem?_eq_some_iff.1 hg).1
  refine .mk l i s kids _ g 0 cap (fun j => vals.getD j []) ⟨some ⟨g, 0, none⟩, rfl, hnc, by unfold maxLen at hcm; omega, Or.inl rfl⟩ h3 hl hi hs (fun j hj => ⟨hlt g rfl, fun q u hq => ?_⟩) (fun j hj => ?_)
  ·obtain ⟨S, s1, s2⟩ := h4 j hj
   have hq' : q < 4 := by
    have h5 := denSK.len s2
    have := (List.getElem?_eq_some_iff.1 hq).1
    omega
   have hf := flat_getK hvl j q (by omega) hq'
   rw [hq] at hf
   have hlt2 : j * 4 + q < kids.length * 4 := by omega
   simp only [World.cell?, hg, Nat.zero_add]
   have : (cur.toList.take (kids.length * 4))[j * 4 + q]? = vals.flatten[j * 4 + q]? := by rw [htk]
   rw [List.getElem?_take, if_pos hlt2, hf] at this
   simpa using this
  ·obtain ⟨S, s1, s2⟩ := h4 j hj
   exact s2.mono (fun q hq => ⟨(s1 q hq).1, (s1 q hq).2.1⟩)
def zeroD : Array Value := #[.int .i64 0, .int .i64 0, .slice none 0 0, .int .i64 0]
/-- x4: the state; x5: the pair; x6: moved; x7, x8: its parts; x9: the box; x11: its second part -/
structure DenR (WA : World) (P7 : World → Value → Prop) (d : Den) (R : Bool) (b4 b5 b6 b7 b8 b9 b10 b11 : Bool) (x4 x5 x6 x7 x8 x9 x11 : Value) (w : World) : Prop where
 hb : Below WA.heap.size WA w
 h4 : b4 = true → b5 = false → P7 w x4
 h5 : b5 = true → ∃ c0 c1 c2 c3, ∃ S : Nat → Prop, (∀ q, S q → WA.heap.size ≤ q ∧ q < w.heap.size ∧ (b9 = true → x9 ≠ .pointer (some ⟨q, 0, none⟩))) ∧ DenS S w [c0, c1, c2, c3] d ∧ x5 = .tuple #[.agg #[c0, c1, c2, c3], .bool R] ∧
  (b6 = true → x6 = .tuple #[.agg #[c0, c1, c2, c3], .bool R]) ∧ (b7 = true → x7 = .agg #[c0, c1, c2, c3]) ∧ (b8 = true → x8 = .bool R) ∧ (b11 = true → x11 = .bool R) ∧ (b10 = true → ∃ q, x9 = .pointer (some ⟨q, 0, none⟩) ∧ CellsN w q #[c0, c1, c2, c3])
 h9 : b9 = true → ∃ q, x9 = .pointer (some ⟨q, 0, none⟩) ∧ WA.heap.size ≤ q ∧ q < w.heap.size ∧ (b10 = false → CellsN w q zeroD)
 c6 : b6 = true → b5 = true
 c7 : b7 = true → b6 = true
 c8 : b8 = true → b6 = true
 c10 : b10 = true → b7 = true ∧ b9 = true
 c11 : b11 = true → b8 = true
section
variable {WA : World} {P7 : World → Value → Prop} {d : Den} {R : Bool} {b4 b5 b6 b7 b8 b9 b10 b11 : Bool} {x4 x5 x6 x7 x8 x9 x11 : Value} {w : World}
theorem DenR.start (hb : Below WA.heap.size WA w) : DenR WA P7 d R false false false false false false false false x4 x5 x6 x7 x8 x9 x11 w :=
 {hb := hb, h4 := (fun h => by cases h), h5 := (fun h => by cases h), h9 := (fun h => by cases h), c6 := (fun h => by cases h), c7 := (fun h => by cases h), c8 := (fun h => by cases h), c10 := (fun h => by cases h), c11 := (fun h => by cases h) }
variable (h : DenR WA P7 d R b4 b5 b6 b7 b8 b9 b10 b11 x4 x5 x6 x7 x8 x9 x11 w)
include h
theorem DenR.n (e : b5 = false) : b6 = false ∧ b7 = false ∧ b8 = false ∧ b10 = false ∧ b11 = false := by
 have h6 : b6 = false := by
  cases e5 : b6 with
  | false => rfl
  | true => have := h.c6 e5; rw [e] at this; cases this
 have h7 : b7 = false := by
  cases e5 : b7 with
  | false => rfl
  | true => have := h.c7 e5; rw [h6] at this; cases this
 have h8 : b8 = false := by
  cases e5 : b8 with
  | false => rfl
  | true => have := h.c8 e5; rw [h6] at this; cases this
 refine ⟨h6, h7, h8, ?_, ?_⟩
 ·cases e5 : b10 with
  | false => rfl
  | true => have := (h.c10 e5).1; rw [h7] at this; cases this
 ·cases e5 : b11 with
  | false => rfl
  | true => have := h.c11 e5; rw [h8] at this; cases this
theorem DenR.s4 (l7 : Lasts P7) {w' : World} (hb : Below w.heap.size w w') {x : Value} (hx : P7 w' x) : DenR WA P7 d R true b5 b6 b7 b8 b9 b10 b11 x x5 x6 x7 x8 x9 x11 w' :=
 {hb := h.hb.trans (hb.mono h.hb.size), h4 := (fun _ _ => hx)
  h5 := (fun e => by
   obtain ⟨c0, c1, c2, c3, S, hS, a1, a2, a3, a4, a5, a6, a7⟩ := h.h5 e
   exact ⟨c0, c1, c2, c3, S, fun q hq => ⟨(hS q hq).1, Nat.lt_of_lt_of_le (hS q hq).2.1 hb.size, (hS q hq).2.2⟩, a1.keep (fun q hq => hb.block q (hS q hq).2.1), a2, a3, a4, a5, a6, fun e => by obtain ⟨q, q1, q2⟩ := a7 e; exact ⟨q, q1, q2.ext hb⟩⟩)
  h9 := (fun e => by obtain ⟨q, q1, q2, q3, q4⟩ := h.h9 e; exact ⟨q, q1, q2, Nat.lt_of_lt_of_le q3 hb.size, fun e => (q4 e).ext hb⟩), c6 := h.c6, c7 := h.c7, c8 := h.c8, c10 := h.c10, c11 := h.c11 }
theorem DenR.s5 (hi : b5 = false) {w' : World} (hb : Below w.heap.size w w') {c0 c1 c2 c3 : Value} (hd : DenS (fun q => w.heap.size ≤ q ∧ q < w'.heap.size) w' [c0, c1, c2, c3] d) : DenR WA P7 d R b4 true b6 b7 b8 b9 b10 b11 x4 (.tuple #[.agg #[c0, c1, c2, c3], .bool R]) x6 x7 x8 x9 x11 w' := by
 obtain ⟨n6, n7, n8, n10, n11⟩ := h.n hi
 subst n6 n7 n8 n10 n11
 exact {
  hb := h.hb.trans (hb.mono h.hb.size), h4 := (fun _ e => by cases e)
  h5 := (fun e => ⟨c0, c1, c2, c3, _, fun q hq => ⟨Nat.le_trans h.hb.size hq.1, hq.2, fun e9 e => by
   obtain ⟨q', q1, q2, q3, q4⟩ := h.h9 e9
   rw [q1] at e
   have : q' = q := by cases e; rfl
   omega⟩, hd, rfl, (fun e => by cases e), (fun e => by cases e), (fun e => by cases e), (fun e => by cases e), (fun e => by cases e)⟩)
  h9 := (fun e => by obtain ⟨q, q1, q2, q3, q4⟩ := h.h9 e; exact ⟨q, q1, q2, Nat.lt_of_lt_of_le q3 hb.size, fun e => (q4 e).ext hb⟩), c6 := (fun _ => rfl), c7 := h.c7, c8 := h.c8, c10 := h.c10, c11 := h.c11 }
theorem DenR.at5 (d5 : b5 = true) : ∃ c0 c1 c2 c3, x5 = .tuple #[.agg #[c0, c1, c2, c3], .bool R] ∧ (b6 = true → x6 = .tuple #[.agg #[c0, c1, c2, c3], .bool R]) ∧ (b7 = true → x7 = .agg #[c0, c1, c2, c3]) ∧ (b8 = true → x8 = .bool R) := by
 obtain ⟨c0, c1, c2, c3, S, hS, a1, a2, a3, a4, a5, a6, a7⟩ := h.h5 d5
 exact ⟨c0, c1, c2, c3, a2, a3, a4, a5⟩
theorem DenR.s6 (d5 : b5 = true) : DenR WA P7 d R b4 b5 true b7 b8 b9 b10 b11 x4 x5 x5 x7 x8 x9 x11 w :=
 {hb := h.hb, h4 := h.h4
  h5 := (fun e => by
   obtain ⟨c0, c1, c2, c3, S, hS, a1, a2, a3, a4, a5, a6, a7⟩ := h.h5 e
   exact ⟨c0, c1, c2, c3, S, hS, a1, a2, (fun _ => a2), a4, a5, a6, a7⟩)
  h9 := h.h9, c6 := (fun _ => d5), c7 := (fun _ => rfl), c8 := (fun _ => rfl), c10 := h.c10, c11 := h.c11 }
theorem DenR.s7 (d6 : b6 = true) {c0 c1 c2 c3 : Value} (he : x6 = .tuple #[.agg #[c0, c1, c2, c3], .bool R]) : DenR WA P7 d R b4 b5 b6 true b8 b9 b10 b11 x4 x5 x6 (.agg #[c0, c1, c2, c3]) x8 x9 x11 w :=
 {hb := h.hb, h4 := h.h4
  h5 := (fun e => by
   obtain ⟨y0, y1, y2, y3, S, hS, a1, a2, a3, a4, a5, a6, a7⟩ := h.h5 e
   have h1 := a3 d6
   rw [he] at h1
   obtain ⟨rfl, rfl, rfl, rfl⟩ : c0 = y0 ∧ c1 = y1 ∧ c2 = y2 ∧ c3 = y3 := by simpa using h1
   exact ⟨_, _, _, _, S, hS, a1, a2, a3, (fun _ => rfl), a5, a6, a7⟩)
  h9 := h.h9, c6 := h.c6, c7 := (fun _ => d6), c8 := h.c8, c10 := (fun e => ⟨rfl, (h.c10 e).2⟩), c11 := h.c11 }
theorem DenR.s8 (d6 : b6 = true) : DenR WA P7 d R b4 b5 b6 b7 true b9 b10 b11 x4 x5 x6 x7 (.bool R) x9 x11 w :=
 {hb := h.hb, h4 := h.h4
  h5 := (fun e => by
   obtain ⟨y0, y1, y2, y3, S, hS, a1, a2, a3, a4, a5, a6, a7⟩ := h.h5 e
   exact ⟨_, _, _, _, S, hS, a1, a2, a3, a4, (fun _ => rfl), a6, a7⟩)
  h9 := h.h9, c6 := h.c6, c7 := h.c7, c8 := (fun _ => d6), c10 := h.c10, c11 := (fun _ => rfl) }
theorem DenR.s11 (d8 : b8 = true) : DenR WA P7 d R b4 b5 b6 b7 b8 b9 b10 true x4 x5 x6 x7 x8 x9 (.bool R) w :=
 {hb := h.hb, h4 := h.h4
  h5 := (fun e => by
   obtain ⟨y0, y1, y2, y3, S, hS, a1, a2, a3, a4, a5, a6, a7⟩ := h.h5 e
   exact ⟨_, _, _, _, S, hS, a1, a2, a3, a4, a5, (fun _ => rfl), a7⟩)
  h9 := h.h9, c6 := h.c6, c7 := h.c7, c8 := h.c8, c10 := h.c10, c11 := (fun _ => d8) }
theorem DenR.s9 (l7 : Lasts P7) (hi : b9 = false) : DenR WA P7 d R b4 b5 b6 b7 b8 true b10 b11 x4 x5 x6 x7 x8 (.pointer (some ⟨w.heap.size, 0, none⟩)) x11 (w.alloc (.cells #[.int .i64 0, .int .i64 0, .slice none 0 0, .int .i64 0] 31)) := by
 have n10 : b10 = false := by
  cases e5 : b10 with
  | false => rfl
  | true => have := (h.c10 e5).2; rw [hi] at this; cases this
 subst n10
 have hb := box_below' w (.cells #[.int .i64 0, .int .i64 0, .slice none 0 0, .int .i64 0] 31)
 exact {
  hb := h.hb.trans (hb.mono h.hb.size), h4 := (fun e e' => l7 _ _ _ (h.h4 e e') hb)
  h5 := (fun e => by
   obtain ⟨c0, c1, c2, c3, S, hS, a1, a2, a3, a4, a5, a6, a7⟩ := h.h5 e
   exact ⟨c0, c1, c2, c3, S, fun q hq => ⟨(hS q hq).1, Nat.lt_of_lt_of_le (hS q hq).2.1 hb.size, fun _ e => by
    have := (hS q hq).2.1
    have : w.heap.size = q := by cases e; rfl
    omega⟩, a1.keep (fun q hq => hb.block q (hS q hq).2.1), a2, a3, a4, a5, a6, (fun e => by cases e)⟩)
  h9 := (fun _ => ⟨_, rfl, h.hb.size, by simp, fun _ => CellsN.new w _ _⟩), c6 := h.c6, c7 := h.c7, c8 := h.c8, c10 := (fun e => by cases e), c11 := h.c11 }
theorem DenR.s10 (d7 : b7 = true) (d9 : b9 = true) (hi : b10 = false) {q : Nat} {c0 c1 c2 c3 : Value} (hq : x9 = .pointer (some ⟨q, 0, none⟩)) (he : x7 = .agg #[c0, c1, c2, c3]) :
  DenR WA P7 d R b4 b5 b6 b7 b8 b9 true b11 x4 x5 x6 x7 x8 x9 x11 ((((w.setCell ⟨q, 0, none⟩ c0).setCell ⟨q, 1, none⟩ c1).setCell ⟨q, 2, none⟩ c2).setCell ⟨q, 3, none⟩ c3) := by
 subst hi
 have d5 := h.c6 (h.c7 d7)
 subst d5
 obtain ⟨q', q1, q2, q3, q4⟩ := h.h9 d9
 obtain rfl : q = q' := by rw [hq] at q1; simpa using q1
 have hg := grown_trans (grown_trans (grown_trans (grown_setCell w ⟨q, 0, none⟩ c0) (grown_setCell _ ⟨q, 1, none⟩ c1)) (grown_setCell _ ⟨q, 2, none⟩ c2)) (grown_setCell _ ⟨q, 3, none⟩ c3)
 exact {
  hb := (((h.hb.setCell (p := ⟨q, 0, none⟩) q2 _).setCell (p := ⟨q, 1, none⟩) q2 _).setCell (p := ⟨q, 2, none⟩) q2 _).setCell (p := ⟨q, 3, none⟩) q2 _, h4 := (fun _ e => by cases e)
  h5 := (fun _ => by
   obtain ⟨y0, y1, y2, y3, S, hS, a1, a2, a3, a4, a5, a6, a7⟩ := h.h5 rfl
   have h1 := a4 d7
   rw [he] at h1
   obtain ⟨rfl, rfl, rfl, rfl⟩ : c0 = y0 ∧ c1 = y1 ∧ c2 = y2 ∧ c3 = y3 := by simpa using h1
   refine ⟨c0, c1, c2, c3, S, fun q' hq' => ⟨(hS q' hq').1, by simpa [World.setCell] using (hS q' hq').2.1, (hS q' hq').2.2⟩, a1.keep (fun q' hq' => hg.block q' (hS q' hq').2.1 (fun e => ?_)), a2, a3, a4, a5, a6, (fun _ => ⟨q, hq, by simpa [zeroD] using ((((q4 rfl).set 0 c0).set 1 c1).set 2 c2).set 3 c3⟩)⟩
   have : q' = q := by cases e; rfl
   exact (hS q' hq').2.2 d9 (by rw [hq, this]))
  h9 := (fun _ => ⟨q, hq, q2, by simpa [World.setCell] using q3, fun e => by cases e⟩), c6 := h.c6, c7 := h.c7, c8 := h.c8, c10 := (fun _ => ⟨d7, d9⟩), c11 := h.c11 }
end
end Go.Proofs.Yteiaeaciaglmgaa
set_option linter.unusedVariables false
set_option linter.unusedSimpArgs false
namespace Go.Proofs.Yteiaeaciaglmgaa
open Go.RowKit
/-- what deny answers -/
def DenyPost (D : Option Den) (w : World) (e : Ending) (w' : World) : Prop := ∃ c0 c1 c2 c3, e = .returned (.tuple #[.agg #[c0, c1, c2, c3], .bool D.isSome]) ∧ DenS (fun q => w.heap.size ≤ q ∧ q < w'.heap.size) w' [c0, c1, c2, c3] (D.getD noD) ∧ Below w.heap.size w w'
theorem ins_small {f : Flow} (hc : checkE f = 0) {k : Nat} (hk : k < f.lots.length) : (lotAt f.lots k).ins.length ≤ 50000 := by
 have h1 := before_bd hc (k := k) (by omega)
 have h2 := before_bd hc (k := k + 1) (by omega)
 have h3 : beforeI f (k + 1) = beforeI f k + (lotAt f.lots k).ins.length := rfl
 omega
theorem kidsTo_skip {g : Int → Option Den} {part : List Int} {i : Nat} (h : hasB part (i : Int) = true) : kidsTo g part (i + 1) = kidsTo g part i := by simp only [kidsTo]; rw [if_pos h]
theorem kidsTo_more {g : Int → Option Den} {part : List Int} {i : Nat} {l : List Den} {d : Den} (h : hasB part (i : Int) = false) (hl : kidsTo g part i = some l) (hd : g (i : Int) = some d) : kidsTo g part (i + 1) = some (l ++ [d]) := by
 simp only [kidsTo]
 rw [if_neg (by rw [h]; simp), hl, hd]
theorem kidsTo_stop {g : Int → Option Den} {part : List Int} {i n : Nat} (hi : i < n) (h : hasB part (i : Int) = false) (hd : g (i : Int) = none) : kidsTo g part n = none := kidsTo_none.2 ⟨i, hi, h, hd⟩
/-- the loop's relation -/
structure DenyRel (w W5 wr : World) (t : Nat) (n1 n2 : Int) (g : Int → Option Den) (S2 : List Int) (i : Nat) (kids : List Den) (vK : Value) : Prop where
 kt : kidsTo g S2 i = some kids
 kl : kids.length ≤ i
 ct : CellsN wr t #[.int .i64 n1, .int .i64 n2, vK, .int .i64 0]
 own : OwnDeep 31 4 DenS LK default W5.heap.size wr vK kids
 keep : ∀ q, q < W5.heap.size → q ≠ t → wr.heap[q]? = W5.heap[q]?
 size : W5.heap.size ≤ wr.heap.size
 below : Below w.heap.size w wr
set_option maxHeartbeats 8000000 in
set_option maxRecDepth 100000 in
theorem deny29_step (B : Nat) (w : World) (vs vl va vW vP : Value) (f : Flow) (zs : List Int) (W : List (List Int)) (part : List Int) (S1 : List (List Int)) (S2 : List Int) (D : Option Den) (g : Int → Option Den)
  (hf : IsFlow B w vs vl f) (hz : IsInts B w va zs) (hW : IsMat B w vW W) (hp : IsInts B w vP part) (hB : B ≤ w.heap.size) (hck : checkE f = 0) (hzl : (zs.length : Int) = f.senders) (hWl : W.length ≤ f.lots.length)
  (hS : settleS f W part = (S1, S2)) (hso : StOk f S1 S2)
  (hD : D = if 0 ≤ stuckI f zs S1 S2 then some (leafD (stuckI f zs S1 S2)) else if S1.length = f.lots.length then none else match kidsTo g S2 (lotAt f.lots S1.length).ins.length with
   | some l => some (.mk (S1.length : Nat) (S2.length : Nat) l 0)
   | none => none)
  (hih : S1.length < f.lots.length → ∀ (i : Nat) (W' : World) (vW' vP' : Value), i < (lotAt f.lots S1.length).ins.length → hasB S2 (i : Int) = false → Below w.heap.size w W' → IsMat W'.heap.size W' vW' S1 → IsInts W'.heap.size W' vP' (S2 ++ [(i : Int)]) →
   Calls Try.prog 44 #[.agg #[vs, vl], va, .agg #[vW', vP']] W' (DenyPost (g (i : Int)) W')) :
  Calls Try.prog 44 #[.agg #[vs, vl], va, .agg #[vW, vP]] w (DenyPost D w) := by
 have HF := Lib.hid hf
 have HZI := Lib.hid hz
 have HWM := Lib.hid hW
 have HPI := Lib.hid hp
 have HCK := Lib.hid hck
 have HSO := Lib.hid hso
 have HIH := Lib.hid hih
 have HZL := Lib.hid hzl
 have HWL := Lib.hid hWl
 have HSE := Lib.hid hS
 have HD := Lib.hid hD
 obtain ⟨h0, h64, h2000, _, _⟩ := checkE_ok hck
 obtain ⟨rfl, ⟨hs1, hs2⟩, hl⟩ := hf
 obtain ⟨b, off, cap, ⟨a, rfl, hcap, hmax, ha⟩, hlen, hc⟩ := hl
 obtain ⟨az, cz, rfl⟩ := hz.form
 obtain ⟨bw, ow, cw, ⟨aw, rfl, _⟩, _⟩ := hW
 obtain ⟨apt, cpt, rfl⟩ := hp.form
 have HC := Lib.hid hc
 have HA := Lib.hid ha
 clear hc ha hz hp hck hso hih hzl hWl hS hD
 go_enter Try.func44, Try.ntmps44
 go_upto_region 1 with fail
 refine wp_name (fun W1 hW1 => ?_)
 have HX1 : Hid (Box W1 w.heap.size #[.int .i64 f.senders, .slice a f.lots.length cap]) := Lib.hid (by rw [hW1]; exact ((Box.new w #[.int .i64 f.senders, .slice a f.lots.length cap] 24).alloc _).alloc _)
 have HS1 : Hid (CellsN W1 (w.heap.size + 1) #[.slice aw W.length cw, .slice apt part.length cpt]) := Lib.hid (by
  rw [hW1]
  have h := CellsN.new (w.alloc (.cells #[.int .i64 f.senders, .slice a f.lots.length cap] 24)) #[.slice aw W.length cw, .slice apt part.length cpt] 82
  rw [World.size_alloc] at h
  exact h.alloc _)
 have HR1 : Hid (CellsN W1 (w.heap.size + 1 + 1) #[.int .i64 0, .int .i64 0, .slice none 0 0, .int .i64 0]) := Lib.hid (by
  rw [hW1]
  have h := CellsN.new ((w.alloc (.cells #[.int .i64 f.senders, .slice a f.lots.length cap] 24)).alloc (.cells #[.slice aw W.length cw, .slice apt part.length cpt] 82)) #[.int .i64 0, .int .i64 0, .slice none 0 0, .int .i64 0] 31
  simp only [World.size_alloc] at h
  exact h)
 have HW1 : Hid (Below w.heap.size w W1) := Lib.hid (by rw [hW1]; exact ((box_below' w _).trans ((box_below' _ _).mono (by simp))).trans ((box_below' _ _).mono (by simp; omega)))
 clear hW1
 have r1 := HX1.out.2
 have m0 := HS1.out.cell 0
 have m1 := HS1.out.cell 1
 simp at m0 m1
 have hz3 := HR1.out.lt
 go_wp2_with fail
 refine (settled29X (fun q => q ≠ w.heap.size ∧ q ≠ w.heap.size + 1 ∧ q ≠ w.heap.size + 1 + 1) B W1 _ _ _ _ f W part (HF.out.below HW1.out hB) ((HWM.out.below HW1.out hB).matX (Nat.le_trans hB HW1.out.size) (fun q hq => ⟨by omega, by omega, by omega⟩)) ((HPI.out.below HW1.out hB).kind (Nat.le_trans hB HW1.out.size) (fun q hq => ⟨by omega, by omega, by omega⟩)) (Nat.le_trans hB HW1.out.size) (fun q hq => ⟨by omega, by omega, by omega⟩) (fun q hq => ⟨by omega, by omega, by omega⟩) HWL.out h2000).mono ?_
 rintro e W2 ⟨v1, v2, rfl, hm2, hp2, hb2⟩
 rw [HSE.out] at hm2 hp2
 have hm2' : IsMatX (fun q => q ≠ w.heap.size ∧ q ≠ w.heap.size + 1 ∧ q ≠ w.heap.size + 1 + 1) W2 v1 S1 := hm2
 have hp2' : IsIntsX (fun q => q ≠ w.heap.size ∧ q ≠ w.heap.size + 1 ∧ q ≠ w.heap.size + 1 + 1) W2 v2 S2 := hp2
 obtain ⟨a1, c1, rfl⟩ := hm2'.form
 obtain ⟨a2, c2, rfl⟩ := hp2'.form
 have HM2 := Lib.hid hm2'
 have HP2 := Lib.hid hp2'
 have HX2 := Lib.hid (HX1.out.ext hb2)
 have HS2 := Lib.hid (HS1.out.ext hb2)
 have HR2 := Lib.hid (HR1.out.ext hb2)
 have HW2 : Hid (Below w.heap.size w W2) := Lib.hid (HW1.out.trans (hb2.mono HW1.out.size))
 clear hm2 hp2 hm2' hp2' hb2 r1 m0 m1 hz3
 have g0 := HS2.out.free 0
 have g1 := HS2.out.free 1
 have m0 := HS2.out.cell 0
 have m1 := HS2.out.cell 1
 simp at m0 m1
 go_upto_region 2 with fail
 refine wp_name (fun W3 hW3 => ?_)
 have HX3 : Hid (Box W3 w.heap.size #[.int .i64 f.senders, .slice a f.lots.length cap]) := Lib.hid (by rw [hW3]; exact (HX2.out.grown (grown_setCell _ ⟨w.heap.size + 1, 0, none⟩ _) (by simp)).grown (grown_setCell _ ⟨w.heap.size + 1, 1, none⟩ _) (by simp))
 have HR3 : Hid (CellsN W3 (w.heap.size + 1 + 1) #[.int .i64 0, .int .i64 0, .slice none 0 0, .int .i64 0]) := Lib.hid (by rw [hW3]; exact (HR2.out.grown (grown_setCell _ ⟨w.heap.size + 1, 0, none⟩ _) (by simp)).grown (grown_setCell _ ⟨w.heap.size + 1, 1, none⟩ _) (by simp))
 have HS3 : Hid (CellsN W3 (w.heap.size + 1) #[.slice a1 S1.length c1, .slice a2 S2.length c2]) := Lib.hid (by rw [hW3]; simpa using (HS2.out.set 0 (.slice a1 S1.length c1)).set 1 (.slice a2 S2.length c2))
 have HM3 : Hid (IsMatX (fun q => q ≠ w.heap.size ∧ q ≠ w.heap.size + 1 ∧ q ≠ w.heap.size + 1 + 1) W3 (.slice a1 S1.length c1) S1) := Lib.hid (by rw [hW3]; exact (HM2.out.setCell (a := ⟨w.heap.size + 1, 0, none⟩) (by simp) _).setCell (a := ⟨w.heap.size + 1, 1, none⟩) (by simp) _)
 have HP3 : Hid (IsIntsX (fun q => q ≠ w.heap.size ∧ q ≠ w.heap.size + 1 ∧ q ≠ w.heap.size + 1 + 1) W3 (.slice a2 S2.length c2) S2) := Lib.hid (by rw [hW3]; exact (HP2.out.setCellX (a := ⟨w.heap.size + 1, 0, none⟩) (by simp) _).setCellX (a := ⟨w.heap.size + 1, 1, none⟩) (by simp) _)
 have HW3 : Hid (Below w.heap.size w W3) := Lib.hid (by rw [hW3]; exact (HW2.out.setCell (p := ⟨w.heap.size + 1, 0, none⟩) (by show w.heap.size ≤ w.heap.size + 1; omega) _).setCell (p := ⟨w.heap.size + 1, 1, none⟩) (by show w.heap.size ≤ w.heap.size + 1; omega) _)
 clear hW3 g0 g1 m0 m1
 have r3 := HX3.out.2
 have m0 := HS3.out.cell 0
 have m1 := HS3.out.cell 1
 simp at m0 m1
 go_wp2_with fail
 refine (stuck29_any W3.heap.size W3 _ _ _ _ _ f zs S1 S2 ((HF.out.below HW3.out hB).mono (Nat.le_trans hB HW3.out.size)) ((HZI.out.below HW3.out hB).mono (Nat.le_trans hB HW3.out.size)) HM3.out.mat HP3.out.ints (Nat.le_refl _) HCK.out HZL.out HSO.out).mono ?_
 rintro e W4 ⟨rfl, hb4⟩
 have HX4 := Lib.hid (HX3.out.ext hb4)
 have HS4 := Lib.hid (HS3.out.ext hb4)
 have HR4 := Lib.hid (HR3.out.ext hb4)
 have HM4 := Lib.hid (HM3.out.below hb4)
 have HP4 := Lib.hid (HP3.out.belowX hb4)
 have HW4 : Hid (Below w.heap.size w W4) := Lib.hid (HW3.out.trans (hb4.mono HW3.out.size))
 clear hb4 r3 m0 m1
 have hKb := leastN_bd (badB f zs S1 S2) f.senders.toNat
 have hKb' : -1 ≤ stuckI f zs S1 S2 ∧ stuckI f zs S1 S2 < f.senders.toNat := hKb
 obtain ⟨K, hK⟩ : ∃ K, stuckI f zs S1 S2 = K := ⟨_, rfl⟩
 rw [hK] at hKb' HD ⊢
 clear hK hKb
 have fr0 := HR4.out.free 0
 have fr1 := HR4.out.free 1
 have fr2 := HR4.out.free 2
 have fr3 := HR4.out.free 3
 have k0 := HR4.out.cell 0
 have k1 := HR4.out.cell 1
 have k2 := HR4.out.cell 2
 have k3 := HR4.out.cell 3
 simp at k0 k1 k2 k3
 by_cases hk : 0 ≤ K
 ·have HDL : Hid (D = some (leafD K)) := Lib.hid (by rw [HD.out, if_pos hk])
  have HU := Lib.hid ((((HR4.out.set 0 (.int .i64 (-1))).set 1 (.int .i64 0)).set 2 (.slice none 0 0)).set 3 (.int .i64 K))
  have u0 := HU.out.cell 0
  have u1 := HU.out.cell 1
  have u2 := HU.out.cell 2
  have u3 := HU.out.cell 3
  simp at u0 u1 u2 u3
  have HBE : Hid (Below w.heap.size w ((((W4.setCell ⟨w.heap.size + 1 + 1, 0, none⟩ (.int .i64 (-1))).setCell ⟨w.heap.size + 1 + 1, 1, none⟩ (.int .i64 0)).setCell ⟨w.heap.size + 1 + 1, 2, none⟩ (.slice none 0 0)).setCell ⟨w.heap.size + 1 + 1, 3, none⟩ (.int .i64 K))) := Lib.hid (((((HW4.out.setCell (p := ⟨w.heap.size + 1 + 1, 0, none⟩) (by show w.heap.size ≤ w.heap.size + 1 + 1; omega) _).setCell (p := ⟨w.heap.size + 1 + 1, 1, none⟩) (by show w.heap.size ≤ w.heap.size + 1 + 1; omega) _).setCell (p := ⟨w.heap.size + 1 + 1, 2, none⟩) (by show w.heap.size ≤ w.heap.size + 1 + 1; omega) _).setCell (p := ⟨w.heap.size + 1 + 1, 3, none⟩) (by show w.heap.size ≤ w.heap.size + 1 + 1; omega) _))
  go_wp2
  exact bodyPost_ret (v := .tuple #[.agg #[.int .i64 (-1), .int .i64 0, .slice none 0 0, .int .i64 K], .bool true]) (by simp [results, Try.results44, go_sem, u0, u1, u2, u3]) rfl ⟨_, _, _, _, by rw [HDL.out]; rfl, by rw [HDL.out]; exact DenS.leaf _ _ (by unfold I64; omega), HBE.out⟩
 ·have HDN0 : Hid (D = if S1.length = f.lots.length then none else match kidsTo g S2 (lotAt f.lots S1.length).ins.length with
   | some l => some (.mk (S1.length : Nat) (S2.length : Nat) l 0)
   | none => none) := Lib.hid (by rw [HD.out, if_neg hk])
  have m0 := HS4.out.cell 0
  have m1 := HS4.out.cell 1
  simp at m0 m1
  have r4 := HX4.out.2
  by_cases hend : S1.length = f.lots.length
  ·have HDL : Hid (D = none) := Lib.hid (by rw [HDN0.out, if_pos hend])
   have HU := Lib.hid ((((HR4.out.set 0 (.int .i64 0)).set 1 (.int .i64 0)).set 2 (.slice none 0 0)).set 3 (.int .i64 0))
   have u0 := HU.out.cell 0
   have u1 := HU.out.cell 1
   have u2 := HU.out.cell 2
   have u3 := HU.out.cell 3
   simp at u0 u1 u2 u3
   have HBE : Hid (Below w.heap.size w ((((W4.setCell ⟨w.heap.size + 1 + 1, 0, none⟩ (.int .i64 0)).setCell ⟨w.heap.size + 1 + 1, 1, none⟩ (.int .i64 0)).setCell ⟨w.heap.size + 1 + 1, 2, none⟩ (.slice none 0 0)).setCell ⟨w.heap.size + 1 + 1, 3, none⟩ (.int .i64 0))) := Lib.hid (((((HW4.out.setCell (p := ⟨w.heap.size + 1 + 1, 0, none⟩) (by show w.heap.size ≤ w.heap.size + 1 + 1; omega) _).setCell (p := ⟨w.heap.size + 1 + 1, 1, none⟩) (by show w.heap.size ≤ w.heap.size + 1 + 1; omega) _).setCell (p := ⟨w.heap.size + 1 + 1, 2, none⟩) (by show w.heap.size ≤ w.heap.size + 1 + 1; omega) _).setCell (p := ⟨w.heap.size + 1 + 1, 3, none⟩) (by show w.heap.size ≤ w.heap.size + 1 + 1; omega) _))
   go_wp2
   exact bodyPost_ret (v := .tuple #[.agg #[.int .i64 0, .int .i64 0, .slice none 0 0, .int .i64 0], .bool false]) (by simp [results, Try.results44, go_sem, u0, u1, u2, u3]) rfl ⟨_, _, _, _, by rw [HDL.out]; rfl, by rw [HDL.out]; exact DenS.zero _ _, HBE.out⟩
  ·have HDN : Hid (D = match kidsTo g S2 (lotAt f.lots S1.length).ins.length with
    | some l => some (.mk (S1.length : Nat) (S2.length : Nat) l 0)
    | none => none) := Lib.hid (by rw [HDN0.out, if_neg hend])
   have hlt : S1.length < f.lots.length := by have := HSO.out.len; omega
   have hins := ins_small HCK.out hlt
   have hfit := HSO.out.fit
   clear HDN0 HD
   have HIH2 := Lib.hid (HIH.out hlt)
   clear HIH
   obtain rfl : a = some ⟨b, off, none⟩ := by rcases HA.out with h | h; exact h; omega
   obtain ⟨vi, vk, vp, q1, _, _, hli, _, _⟩ := HC.out _ hlt
   obtain ⟨bi, oi, ci, ⟨ai, rfl, hci1, hci2, hai⟩, hil, hiz, hic⟩ := hli
   have HQ1 := Lib.hid q1
   have HNS : Hid (S1.length ≤ 2000) := Lib.hid (by omega)
   obtain ⟨n1, hn1⟩ : ∃ n, S1.length = n := ⟨_, rfl⟩
   have HN1 := Lib.hid hn1
   rw [hn1] at hend hlt hins hfit HDN HIH2 m0 HS4 HQ1 HM4
   obtain ⟨N, hN⟩ : ∃ N, (lotAt f.lots n1).ins.length = N := ⟨_, rfl⟩
   rw [hN] at hins hfit HDN HIH2 HQ1
   rw [hn1]
   clear q1 hic hai hiz hn1 hci1 hil
   have hne : ((n1 : Int) == (f.lots.length : Int)) = false := beq_eq_false_iff_ne.2 (by omega)
   go_upto_region 9 with fail
   try simp only [hne]
   refine wp_name (fun W5 hW5 => ?_)
   have hWo := box_below' W4 (.cells #[.int .i64 (n1 : Int), .int .i64 (S2.length : Int), .slice none 0 0, .int .i64 0] 31)
   have HB5 : Hid (Below W4.heap.size W4 W5) := Lib.hid (by rw [hW5]; exact hWo)
   have HT5 : Hid (CellsN W5 W4.heap.size #[.int .i64 (n1 : Int), .int .i64 (S2.length : Int), .slice none 0 0, .int .i64 0]) := Lib.hid (by rw [hW5]; exact CellsN.new W4 _ _)
   have HZ5 : Hid (W5.heap.size = W4.heap.size + 1) := Lib.hid (by rw [hW5]; simp)
   have HW5 : Hid (Below w.heap.size w W5) := Lib.hid (HW4.out.trans (HB5.out.mono HW4.out.size))
   have HX5 := Lib.hid (HX4.out.ext HB5.out)
   have HS5 := Lib.hid (HS4.out.ext HB5.out)
   have HR5 := Lib.hid (HR4.out.ext HB5.out)
   have HM5 : Hid (IsMatX (fun q => q ≠ W4.heap.size) W5 (.slice a1 n1 c1) S1) := Lib.hid ((HM4.out.old (fun q _ hz => by omega)).below HB5.out)
   have HP5 : Hid (IsIntsX (fun q => q ≠ W4.heap.size) W5 (.slice a2 S2.length c2) S2) := Lib.hid ((HP4.out.old (fun q _ hz => by omega)).belowX HB5.out)
   have HSL : Hid (w.heap.size + 1 + 1 < W4.heap.size) := Lib.hid HR4.out.lt
   clear hW5 hWo m0 m1 r4 fr0 fr1 fr2 fr3 k0 k1 k2 k3
   go_wp2
   go_loopw [11] (fun i' wr => ∃ (i : Nat) (kids : List Den) (vK : Value), i ≤ N ∧ i' = .int .i64 i ∧ DenyRel w W5 wr W4.heap.size (n1 : Int) (S2.length : Int) g S2 i kids vK) (fun i' _ => N - (intOf i').toNat)
   case atStart => exact ⟨0, [], .slice none 0 0, by omega, rfl, ⟨rfl, by simp, HT5.out, OwnDeep.nil, fun q _ _ => rfl, Nat.le_refl _, HW5.out⟩⟩
   case round =>
    obtain ⟨i, kids, vK, hi, rfl, hrel⟩ := hrel
    have HRL := Lib.hid hrel
    have HBR := Lib.hid hrel.below
    have hW5e := HW5.out.size
    have HXR : Hid (Box wr w.heap.size #[.int .i64 f.senders, .slice (some ⟨b, off, none⟩) f.lots.length cap]) := Lib.hid ⟨by have := HX5.out.1; have := hrel.size; omega, fun i => (World.cell?_of_block (a := ⟨w.heap.size, i, none⟩) (hrel.keep w.heap.size HX5.out.1 (by have := HSL.out; omega))).trans (HX5.out.2 i)⟩
    have HSR : Hid (CellsN wr (w.heap.size + 1) #[.slice a1 n1 c1, .slice a2 S2.length c2]) := Lib.hid (by obtain ⟨ty, hy⟩ := HS5.out; exact ⟨ty, (hrel.keep _ HS5.out.lt (by have := HSL.out; omega)).trans hy⟩)
    have HRR : Hid (CellsN wr (w.heap.size + 1 + 1) #[.int .i64 0, .int .i64 0, .slice none 0 0, .int .i64 0]) := Lib.hid (by obtain ⟨ty, hy⟩ := HR5.out; exact ⟨ty, (hrel.keep _ HR5.out.lt (by have := HSL.out; omega)).trans hy⟩)
    have HMR : Hid (IsMat wr.heap.size wr (.slice a1 n1 c1) S1) := Lib.hid (HM5.out.kept hrel.size (fun q hq hz => hrel.keep q hz hq)).mat
    have HPR : Hid (IsInts wr.heap.size wr (.slice a2 S2.length c2) S2) := Lib.hid (HP5.out.kept hrel.size (fun q hq hz => hrel.keep q hz hq)).ints
    obtain ⟨z1, r1⟩ := HXR.out
    have m0 := HSR.out.cell 0
    have m1 := HSR.out.cell 1
    simp at m0 m1
    have x0 := (HQ1.out.below HBR.out hB).2
    obtain ⟨aK, nK, cK, rfl⟩ := hrel.own.form'
    have HOK := Lib.hid hrel.own
    have HCT := Lib.hid hrel.ct
    have HKL := Lib.hid hrel.kl
    have HKT := Lib.hid hrel.kt
    have HKP := Lib.hid hrel.keep
    have HKZ := Lib.hid hrel.size
    clear hrel
    by_cases hlti : i < N
    ·obtain ⟨HS, hHS⟩ : ∃ h, hasB S2 (i : Int) = h := ⟨_, rfl⟩
     go_wp2_with fail
     refine (has_any wr.heap.size _ _ S2 i HPR.out).mono ?_
     rintro e wq ⟨rfl, rfl⟩
     rw [hHS]
     have HHS := Lib.hid hHS
     clear hHS
     cases HS
     ·have HIW : Hid (∀ W', Below wq.heap.size wq W' → W'.cell? ⟨w.heap.size, 0, none⟩ = some (.int .i64 f.senders) ∧ W'.cell? ⟨w.heap.size, 1, none⟩ = some (.slice (some ⟨b, off, none⟩) f.lots.length cap) ∧ W'.cell? ⟨w.heap.size + 1, 0, none⟩ = some (.slice a1 n1 c1) ∧ W'.cell? ⟨w.heap.size + 1, 1, none⟩ = some (.slice a2 S2.length c2)) := Lib.hid fun W' hW' =>
       ⟨(HXR.out.ext hW').2 0, (HXR.out.ext hW').2 1, (HSR.out.ext hW').cell 0, (HSR.out.ext hW').cell 1⟩
      have HDE : Hid (∀ W', Below wq.heap.size wq W' → Calls Try.prog 69 #[.agg #[.slice a1 n1 c1, .slice a2 S2.length c2], .int .i64 (i : Int)] W' fun e w' => ∃ vP', e = .returned (.agg #[.slice a1 n1 c1, vP']) ∧ IsInts w'.heap.size w' vP' (S2 ++ [(i : Int)]) ∧ Below W'.heap.size W' w') := Lib.hid fun W' hW' =>
       decided29_any wq.heap.size W' a1 n1 c1 _ S2 (i : Int) (HPR.out.below hW' (Nat.le_refl _)) hW'.size (by unfold I64; omega) (by omega)
      have HDN2 : Hid (∀ W' vP', Below wq.heap.size wq W' → IsInts W'.heap.size W' vP' (S2 ++ [(i : Int)]) → Calls Try.prog 44 #[.agg #[.int .i64 f.senders, .slice (some ⟨b, off, none⟩) f.lots.length cap], .slice az zs.length cz, .agg #[.slice a1 n1 c1, vP']] W' (DenyPost (g (i : Int)) W')) := Lib.hid fun W' vP' hW' hi' =>
       HIH2.out i W' _ vP' hlti HHS.out (HBR.out.trans (hW'.mono HBR.out.size)) ((HMR.out.below hW' (Nat.le_refl _)).mono hW'.size) hi'
      have HL7 : Hid (Lasts (fun W' x => ∃ vP', x = .agg #[.slice a1 n1 c1, vP'] ∧ IsInts W'.heap.size W' vP' (S2 ++ [(i : Int)]))) := Lib.hid (fun w1 w2 v h hb => by obtain ⟨vP', e, h⟩ := h; exact ⟨vP', e, (h.below hb (Nat.le_refl _)).mono hb.size⟩)
      obtain ⟨GD, hGD⟩ : ∃ G, g (i : Int) = G := ⟨_, rfl⟩
      rw [hGD] at HDN2
      have HGD := Lib.hid hGD
      clear hGD m0 m1 r1 x0
      go_upto_region 13 with fail
      obtain ⟨V, hV⟩ : ∃ V : List (Option Value), V = [some (.agg #[.int .i64 f.senders, .slice (some ⟨b, off, none⟩) f.lots.length cap]), some (.slice az zs.length cz), some (.agg #[.slice a1 n1 c1, .slice a2 S2.length c2]), some (.int .i64 (i : Int)), none, none, none, none, none, none, none, none] := ⟨_, rfl⟩
      have HVV := Lib.hid hV
      clear hV
      refine wp_region_V [some 55, some 56, some 57, some 58, some 59, some 60, some 54, some 61, some 62, some 12, none, some 13] (fun L w' xs => ValsAt V L xs ∧ (DenR wq (fun W' x => ∃ vP', x = .agg #[.slice a1 n1 c1, vP'] ∧ IsInts W'.heap.size W' vP' (S2 ++ [(i : Int)])) (GD.getD noD) GD.isSome (L 4) (L 5) (L 6) (L 7) (L 8) (L 9) (L 10) (L 11) (xs 4) (xs 5) (xs 6) (xs 7) (xs 8) (xs 9) (xs 11) w')) (by kernel_rfl) (by kernel_rfl) (by rfl) (by rfl) (by rfl) ?_ ?_ ?_
      focus
       exact fun xs => ⟨ValsAt.none _ _, DenR.start (Below.refl _ _).drew⟩
      focus
       refine ⟨?_, ?_, ?_, ?_, ?_, ?_, ?_, ?_, ?_, ?_, ?_, ?_, trivial⟩
       all_goals
        intro L a' w' xs hi hd hf hJ K hK
        obtain ⟨hv, hA⟩ := hJ
        have HF := Lib.hid hf
        have HVA := Lib.hid hv
        have HLI := Lib.hid hi
        clear hf hv hi
       focus
        clear hd
        obtain ⟨ρ, hρ⟩ : ∃ ρ, a'.eval = ρ := ⟨_, rfl⟩
        have hcst : ∀ v, ρ (.const v) = v := fun v => (congrFun hρ (.const v)).symm
        have l3 : ρ (.tmp 3) = .pointer (some ⟨w.heap.size, 0, none⟩) := (congrFun hρ (.tmp 3)).symm.trans (HF.out.lo 3 rfl)
        obtain ⟨k0, k1, k2, k3⟩ := HIW.out _ hA.hb
        rw [if_pos (by simp [Region.wanted])]
        unfold Oper.wp
        rw [hρ]
        clear hρ
        go_simp
        exact hK.out _ _ ⟨HVA.out.set (i := 0) (by rw [HVV.out]; rfl), (by simp only [une xs 4 0 rfl, une xs 5 0 rfl, une xs 6 0 rfl, une xs 7 0 rfl, une xs 8 0 rfl, une xs 9 0 rfl, une xs 11 0 rfl]; exact hA)⟩
       focus
        clear hd
        obtain ⟨ρ, hρ⟩ : ∃ ρ, a'.eval = ρ := ⟨_, rfl⟩
        have hcst : ∀ v, ρ (.const v) = v := fun v => (congrFun hρ (.const v)).symm
        have l1 : ρ (.tmp 1) = .slice az zs.length cz := (congrFun hρ (.tmp 1)).symm.trans (HF.out.lo 1 rfl)
        rw [if_pos (by simp [Region.wanted])]
        unfold Oper.wp
        rw [hρ]
        clear hρ
        go_simp
        exact hK.out _ _ ⟨HVA.out.set (i := 1) (by rw [HVV.out]; rfl), (by simp only [une xs 4 1 rfl, une xs 5 1 rfl, une xs 6 1 rfl, une xs 7 1 rfl, une xs 8 1 rfl, une xs 9 1 rfl, une xs 11 1 rfl]; exact hA)⟩
       focus
        clear hd
        obtain ⟨ρ, hρ⟩ : ∃ ρ, a'.eval = ρ := ⟨_, rfl⟩
        have hcst : ∀ v, ρ (.const v) = v := fun v => (congrFun hρ (.const v)).symm
        have l5 : ρ (.tmp 5) = .pointer (some ⟨w.heap.size + 1, 0, none⟩) := (congrFun hρ (.tmp 5)).symm.trans (HF.out.lo 5 rfl)
        obtain ⟨k0, k1, k2, k3⟩ := HIW.out _ hA.hb
        rw [if_pos (by simp [Region.wanted])]
        unfold Oper.wp
        rw [hρ]
        clear hρ
        go_simp
        exact hK.out _ _ ⟨HVA.out.set (i := 2) (by rw [HVV.out]; rfl), (by simp only [une xs 4 2 rfl, une xs 5 2 rfl, une xs 6 2 rfl, une xs 7 2 rfl, une xs 8 2 rfl, une xs 9 2 rfl, une xs 11 2 rfl]; exact hA)⟩
       focus
        clear hd
        obtain ⟨ρ, hρ⟩ : ∃ ρ, a'.eval = ρ := ⟨_, rfl⟩
        have hcst : ∀ v, ρ (.const v) = v := fun v => (congrFun hρ (.const v)).symm
        have l11 : ρ (.tmp 11) = .int .i64 (i : Int) := (congrFun hρ (.tmp 11)).symm.trans (HF.out.lo 11 rfl)
        rw [if_pos (by simp [Region.wanted])]
        unfold Oper.wp
        rw [hρ]
        clear hρ
        go_simp
        exact hK.out _ _ ⟨HVA.out.set (i := 3) (by rw [HVV.out]; rfl), (by simp only [une xs 4 3 rfl, une xs 5 3 rfl, une xs 6 3 rfl, une xs 7 3 rfl, une xs 8 3 rfl, une xs 9 3 rfl, une xs 11 3 rfl]; exact hA)⟩
       focus
        obtain ⟨d2, d3, _⟩ := hd
        obtain ⟨ρ, hρ⟩ : ∃ ρ, a'.eval = ρ := ⟨_, rfl⟩
        have hcst : ∀ v, ρ (.const v) = v := fun v => (congrFun hρ (.const v)).symm
        have hfun : ∀ k, ρ (.func k) = .func (.func k) #[] #[] := fun k => (congrFun hρ (.func k)).symm
        have v2 : ρ (.tmp 57) = .agg #[.slice a1 n1 c1, .slice a2 S2.length c2] := (congrFun hρ (.tmp 57)).symm.trans ((HF.out.ev 2 rfl d2).trans (HVA.out 2 _ (by rw [HVV.out]; rfl) d2))
        have v3 : ρ (.tmp 58) = .int .i64 (i : Int) := (congrFun hρ (.tmp 58)).symm.trans ((HF.out.ev 3 rfl d3).trans (HVA.out 3 _ (by rw [HVV.out]; rfl) d3))
        rw [if_pos (by simp [Region.wanted])]
        unfold Oper.wp
        rw [hρ]
        clear hρ
        go_simp
        go_at_call 69
        refine (HDE.out _ hA.hb).mono ?_
        rintro en w5' ⟨v5, rfl, hi5, hb5⟩
        exact hK.out _ _ ⟨HVA.out.free (i := 4) (by rw [HVV.out]; rfl) _, (by simp only [une xs 5 4 rfl, une xs 6 4 rfl, une xs 7 4 rfl, une xs 8 4 rfl, une xs 9 4 rfl, une xs 11 4 rfl, updV_self]; exact hA.s4 HL7.out hb5 ⟨v5, rfl, hi5⟩)⟩
       focus
        obtain ⟨d0, d1, d4, _, _⟩ := hd
        obtain ⟨ρ, hρ⟩ : ∃ ρ, a'.eval = ρ := ⟨_, rfl⟩
        have hcst : ∀ v, ρ (.const v) = v := fun v => (congrFun hρ (.const v)).symm
        have hfun : ∀ k, ρ (.func k) = .func (.func k) #[] #[] := fun k => (congrFun hρ (.func k)).symm
        have v0 : ρ (.tmp 55) = .agg #[.int .i64 f.senders, .slice (some ⟨b, off, none⟩) f.lots.length cap] := (congrFun hρ (.tmp 55)).symm.trans ((HF.out.ev 0 rfl d0).trans (HVA.out 0 _ (by rw [HVV.out]; rfl) d0))
        have v1 : ρ (.tmp 56) = .slice az zs.length cz := (congrFun hρ (.tmp 56)).symm.trans ((HF.out.ev 1 rfl d1).trans (HVA.out 1 _ (by rw [HVV.out]; rfl) d1))
        have v4 : ρ (.tmp 59) = xs 4 := (congrFun hρ (.tmp 59)).symm.trans (HF.out.ev 4 rfl d4)
        rw [if_pos (by simp [Region.wanted])]
        unfold Oper.wp
        rw [hρ]
        clear hρ
        obtain ⟨vP', e4, i4⟩ := hA.h4 d4 HLI.out
        rw [e4] at v4
        go_simp
        go_at_call 44
        refine (HDN2.out _ _ hA.hb i4).mono ?_
        rintro en w5' ⟨y0, y1, y2, y3, rfl, hd5, hb5⟩
        exact hK.out _ _ ⟨HVA.out.free (i := 5) (by rw [HVV.out]; rfl) _, (by simp only [une xs 4 5 rfl, une xs 6 5 rfl, une xs 7 5 rfl, une xs 8 5 rfl, une xs 9 5 rfl, une xs 11 5 rfl, updV_self]; exact hA.s5 HLI.out hb5 hd5)⟩
       focus
        obtain ⟨d5, _⟩ := hd
        obtain ⟨ρ, hρ⟩ : ∃ ρ, a'.eval = ρ := ⟨_, rfl⟩
        have hcst : ∀ v, ρ (.const v) = v := fun v => (congrFun hρ (.const v)).symm
        have v5 : ρ (.tmp 60) = xs 5 := (congrFun hρ (.tmp 60)).symm.trans (HF.out.ev 5 rfl d5)
        rw [if_pos (by simp [Region.wanted])]
        unfold Oper.wp
        rw [hρ]
        clear hρ
        go_simp
        exact hK.out _ _ ⟨HVA.out.free (i := 6) (by rw [HVV.out]; rfl) _, (by simp only [une xs 4 6 rfl, une xs 5 6 rfl, une xs 7 6 rfl, une xs 8 6 rfl, une xs 9 6 rfl, une xs 11 6 rfl, updV_self]; exact hA.s6 d5)⟩
       focus
        obtain ⟨d6, _⟩ := hd
        obtain ⟨ρ, hρ⟩ : ∃ ρ, a'.eval = ρ := ⟨_, rfl⟩
        have hcst : ∀ v, ρ (.const v) = v := fun v => (congrFun hρ (.const v)).symm
        have v6 : ρ (.tmp 54) = xs 6 := (congrFun hρ (.tmp 54)).symm.trans (HF.out.ev 6 rfl d6)
        rw [if_pos (by simp [Region.wanted])]
        unfold Oper.wp
        rw [hρ]
        clear hρ
        obtain ⟨y0, y1, y2, y3, _, e6, _⟩ := hA.at5 (hA.c6 d6)
        have e6' := e6 d6
        rw [e6'] at v6
        go_simp
        exact hK.out _ _ ⟨HVA.out.free (i := 7) (by rw [HVV.out]; rfl) _, (by simp only [une xs 4 7 rfl, une xs 5 7 rfl, une xs 6 7 rfl, une xs 8 7 rfl, une xs 9 7 rfl, une xs 11 7 rfl, updV_self]; exact hA.s7 d6 e6')⟩
       focus
        obtain ⟨d6, _⟩ := hd
        obtain ⟨ρ, hρ⟩ : ∃ ρ, a'.eval = ρ := ⟨_, rfl⟩
        have hcst : ∀ v, ρ (.const v) = v := fun v => (congrFun hρ (.const v)).symm
        have v6 : ρ (.tmp 54) = xs 6 := (congrFun hρ (.tmp 54)).symm.trans (HF.out.ev 6 rfl d6)
        rw [if_pos (by simp [Region.wanted])]
        unfold Oper.wp
        rw [hρ]
        clear hρ
        obtain ⟨y0, y1, y2, y3, _, e6, _⟩ := hA.at5 (hA.c6 d6)
        have e6' := e6 d6
        rw [e6'] at v6
        go_simp
        exact hK.out _ _ ⟨HVA.out.free (i := 8) (by rw [HVV.out]; rfl) _, (by simp only [une xs 4 8 rfl, une xs 5 8 rfl, une xs 6 8 rfl, une xs 7 8 rfl, une xs 9 8 rfl, une xs 11 8 rfl, updV_self]; exact hA.s8 d6)⟩
       focus
        clear hd
        obtain ⟨ρ, hρ⟩ : ∃ ρ, a'.eval = ρ := ⟨_, rfl⟩
        have hcst : ∀ v, ρ (.const v) = v := fun v => (congrFun hρ (.const v)).symm
        rw [if_pos (by simp [Region.wanted])]
        unfold Oper.wp
        rw [hρ]
        clear hρ
        go_simp
        exact hK.out _ _ ⟨HVA.out.free (i := 9) (by rw [HVV.out]; rfl) _, (by simp only [une xs 4 9 rfl, une xs 5 9 rfl, une xs 6 9 rfl, une xs 7 9 rfl, une xs 8 9 rfl, une xs 11 9 rfl, updV_self]; exact hA.s9 HL7.out HLI.out)⟩
       focus
        obtain ⟨d9, d7, d5, d0, d1, d2, d3, d4, _, d6, _, _, _⟩ := hd
        obtain ⟨ρ, hρ⟩ : ∃ ρ, a'.eval = ρ := ⟨_, rfl⟩
        have hcst : ∀ v, ρ (.const v) = v := fun v => (congrFun hρ (.const v)).symm
        have v9 : ρ (.tmp 12) = xs 9 := (congrFun hρ (.tmp 12)).symm.trans (HF.out.ev 9 rfl d9)
        have v7 : ρ (.tmp 61) = xs 7 := (congrFun hρ (.tmp 61)).symm.trans (HF.out.ev 7 rfl d7)
        rw [if_pos (by simp [Region.wanted])]
        unfold Oper.wp
        rw [hρ]
        clear hρ
        obtain ⟨qb, e9, q2, q3, q4⟩ := hA.h9 d9
        obtain ⟨y0, y1, y2, y3, SS, _, a1', _, _, e7, _⟩ := hA.h5 (hA.c6 (hA.c7 d7))
        have e7' := e7 d7
        obtain ⟨l0, l1, ak, nk, ck, l3, rfl, rfl, rfl, rfl⟩ := a1'.form6
        have hSS := Lib.hid (hA.s10 d7 d9 HLI.out e9 e7')
        rw [e9] at v9
        rw [e7'] at v7
        have hzd := q4 HLI.out
        have fz0 := hzd.free 0
        have fz1 := hzd.free 1
        have fz2 := hzd.free 2
        have fz3 := hzd.free 3
        have zz0 := hzd.cell 0
        have zz1 := hzd.cell 1
        have zz2 := hzd.cell 2
        have zz3 := hzd.cell 3
        simp [zeroD] at zz0 zz1 zz2 zz3
        clear e7' e9 e7 hzd q4 a1'
        go_simp
        exact hK.out undef _ ⟨HVA.out.free (i := 10) (by rw [HVV.out]; rfl) _, (by simp only [une xs 4 10 rfl, une xs 5 10 rfl, une xs 6 10 rfl, une xs 7 10 rfl, une xs 8 10 rfl, une xs 9 10 rfl, une xs 11 10 rfl]; exact hSS.out)⟩
       focus
        obtain ⟨d8, d10, d0, d1, d2, d3, d4, d5, d6, d7, _, d9, _, _⟩ := hd
        obtain ⟨ρ, hρ⟩ : ∃ ρ, a'.eval = ρ := ⟨_, rfl⟩
        have hcst : ∀ v, ρ (.const v) = v := fun v => (congrFun hρ (.const v)).symm
        have v8 : ρ (.tmp 62) = xs 8 := (congrFun hρ (.tmp 62)).symm.trans (HF.out.ev 8 rfl d8)
        rw [if_pos (by simp [Region.wanted])]
        unfold Oper.wp
        rw [hρ]
        clear hρ
        obtain ⟨y0, y1, y2, y3, _, _, _, e8⟩ := hA.at5 (hA.c6 (hA.c8 d8))
        rw [e8 d8] at v8
        go_simp
        exact hK.out _ _ ⟨HVA.out.free (i := 11) (by rw [HVV.out]; rfl) _, (by simp only [une xs 4 11 rfl, une xs 5 11 rfl, une xs 6 11 rfl, une xs 7 11 rfl, une xs 8 11 rfl, une xs 9 11 rfl, updV_self]; exact hA.s11 d8)⟩
      focus
       intro L w' xs hL hJ
       obtain ⟨hv, hA⟩ := hJ
       have e0 : xs 0 = .agg #[.int .i64 f.senders, .slice (some ⟨b, off, none⟩) f.lots.length cap] := hv 0 _ (by rw [HVV.out]; rfl) (hL 0 (by decide))
       have e1 : xs 1 = .slice az zs.length cz := hv 1 _ (by rw [HVV.out]; rfl) (hL 1 (by decide))
       have e2 : xs 2 = .agg #[.slice a1 n1 c1, .slice a2 S2.length c2] := hv 2 _ (by rw [HVV.out]; rfl) (hL 2 (by decide))
       have e3 : xs 3 = .int .i64 (i : Int) := hv 3 _ (by rw [HVV.out]; rfl) (hL 3 (by decide))
       simp only [putGo, Act.put, List.setIfInBounds_toArray, List.set_cons_zero, List.set_cons_succ, e0, e1, e2, e3]
       clear hv e0 e1 e2 e3
       obtain ⟨y0, y1, y2, y3, SS, hSS, a1', _, _, _, _, a6, a7⟩ := hA.h5 (hL 5 (by decide))
       have f11 := a6 (hL 11 (by decide))
       obtain ⟨qb, e9, hq9⟩ := a7 (hL 10 (by decide))
       have hb := hA.hb
       rw [f11, e9]
       have HDS := Lib.hid a1'
       have HSS := Lib.hid (fun q hq => (hSS q hq).1)
       have HSS2 := Lib.hid (fun q hq => (hSS q hq).2.1)
       have HQ9 := Lib.hid hq9
       clear f11 e9 hL hA a1' a6 a7 hSS hq9
       obtain ⟨WC, rfl⟩ : ∃ W', W' = w' := ⟨_, rfl⟩
       have HB8 := Lib.hid hb
       have HBC : Hid (Below w.heap.size w WC) := Lib.hid (HBR.out.trans (hb.mono HBR.out.size))
       clear hb
       have HR8 := Lib.hid (HRR.out.ext HB8.out)
       have HT8 := Lib.hid (HCT.out.ext HB8.out)
       have HO8 := Lib.hid (HOK.out.below denSK HB8.out)
       cases GD with
       | none =>
        have HDL : Hid (D = none) := Lib.hid (by rw [HDN.out, kidsTo_stop hlti HHS.out HGD.out])
        have fr0 := HR8.out.free 0
        have fr1 := HR8.out.free 1
        have fr2 := HR8.out.free 2
        have fr3 := HR8.out.free 3
        have k0 := HR8.out.cell 0
        have k1 := HR8.out.cell 1
        have k2 := HR8.out.cell 2
        have k3 := HR8.out.cell 3
        simp at k0 k1 k2 k3
        have HU := Lib.hid ((((HR8.out.set 0 (.int .i64 0)).set 1 (.int .i64 0)).set 2 (.slice none 0 0)).set 3 (.int .i64 0))
        have u0 := HU.out.cell 0
        have u1 := HU.out.cell 1
        have u2 := HU.out.cell 2
        have u3 := HU.out.cell 3
        simp at u0 u1 u2 u3
        have HBE : Hid (Below w.heap.size w ((((WC.setCell ⟨w.heap.size + 1 + 1, 0, none⟩ (.int .i64 0)).setCell ⟨w.heap.size + 1 + 1, 1, none⟩ (.int .i64 0)).setCell ⟨w.heap.size + 1 + 1, 2, none⟩ (.slice none 0 0)).setCell ⟨w.heap.size + 1 + 1, 3, none⟩ (.int .i64 0))) := Lib.hid (((((HBC.out.setCell (p := ⟨w.heap.size + 1 + 1, 0, none⟩) (by show w.heap.size ≤ w.heap.size + 1 + 1; omega) _).setCell (p := ⟨w.heap.size + 1 + 1, 1, none⟩) (by show w.heap.size ≤ w.heap.size + 1 + 1; omega) _).setCell (p := ⟨w.heap.size + 1 + 1, 2, none⟩) (by show w.heap.size ≤ w.heap.size + 1 + 1; omega) _).setCell (p := ⟨w.heap.size + 1 + 1, 3, none⟩) (by show w.heap.size ≤ w.heap.size + 1 + 1; omega) _))
        go_wp2
        exact bodyPost_ret (v := .tuple #[.agg #[.int .i64 0, .int .i64 0, .slice none 0 0, .int .i64 0], .bool false]) (by simp [results, Try.results44, go_sem, u0, u1, u2, u3]) rfl ⟨_, _, _, _, by rw [HDL.out]; rfl, by rw [HDL.out]; exact DenS.zero _ _, HBE.out⟩
       | some d =>
        have HDD : Hid (DenS SS WC [y0, y1, y2, y3] d) := Lib.hid HDS.out
        have HKN := Lib.hid (kidsTo_more HHS.out HKT.out HGD.out)
        have t2 := HT8.out.cell 2
        have ft2 := HT8.out.free 2
        simp at t2
        have s0 := HQ9.out.cell 0
        have s1 := HQ9.out.cell 1
        have s2 := HQ9.out.cell 2
        have s3 := HQ9.out.cell 3
        simp at s0 s1 s2 s3
        have hzt := HT8.out.lt
        go_wp2_with (at_builtin; refine append_deepA denSK (by decide) den_inf Try.underlying29 rfl (by decide) (by decide) rfl (.tmp 67) (.tmp 69) rfl (C := W5.heap.size) (v := .slice aK nK cK) (vx := .slice (some ⟨WC.heap.size, 0, none⟩) 1 1) (xs := kids) (ys := [d]) rfl (HO8.out.below denSK (box_below' WC _)) rfl (srcDeep_one denSK (S := SS) (cs := [y0, y1, y2, y3]) (fun q u hq => by rw [(Box.new WC #[y0, y1, y2, y3] 31).2 q]; simpa using hq) (fun q hq => ⟨Nat.le_trans HKZ.out (HSS.out q hq), by have := HSS2.out q hq; simp; omega, fun e => by have := (HOK.out.lt q e).2; have := HSS.out q hq; omega⟩) (HDD.out.keep (fun q hq => (box_below' WC _).block q (HSS2.out q hq)))) (by have := HKL.out; simp; unfold LK; omega) (by have := HB8.out.size; have := HKZ.out; simp; omega) ?_; intro v9 w9 ho9 hg9 hat9; obtain ⟨a9, n9, c9, rfl⟩ := ho9.form'; have HO9 := Lib.hid ho9; have HT9 := Lib.hid ((HT8.out.alloc (.cells #[y0, y1, y2, y3] 31)).grown hg9 (fun e => by have := (HOK.out.lt _ e.symm).1; have := HZ5.out; omega)); have HG9 := Lib.hid hg9; clear ho9 hg9 hat9; have t2 := HT9.out.cell 2; have ft2 := HT9.out.free 2; simp at t2)
        go_roundw
        case rel =>
         refine ⟨i + 1, kids ++ [d], .slice a9 n9 c9, by omega, by go_num, HKN.out, by have := HKL.out; simp; omega, by simpa using HT9.out.set 2 (.slice a9 n9 c9), HO9.out.kept denSK (grown_setCell _ ⟨W4.heap.size, 2, none⟩ _) (fun q e => by have := HZ5.out; left; cases e; show W4.heap.size < W5.heap.size; omega), fun q hq hne => ?_, ?_, ?_⟩
         ·refine ((grown_setCell w9 ⟨W4.heap.size, 2, none⟩ (.slice a9 n9 c9)).block q (by have := HG9.out.size; have := HB8.out.size; have := HKZ.out; simp at *; omega) (fun e => hne (by cases e; rfl))).trans ?_
          refine (HG9.out.block q (by have := HB8.out.size; have := HKZ.out; simp; omega) (fun e => by have := (HOK.out.lt _ e.symm).1; omega)).trans ?_
          refine ((box_below' WC _).block q (by have := HB8.out.size; have := HKZ.out; omega)).trans ?_
          exact (HB8.out.block q (by have := HKZ.out; omega)).trans (HKP.out q hq hne)
         ·have := HG9.out.size; have := HB8.out.size; have := HKZ.out; simp [World.setCell] at *; omega
         ·exact (((HBC.out.trans ((box_below' WC _).mono HBC.out.size)).grown HG9.out (by have := HBC.out.size; simp; omega) (fun q e => by have := (HOK.out.lt q e).1; have := HW5.out.size; omega)).setCell (p := ⟨W4.heap.size, 2, none⟩) (by have := HW4.out.size; exact this) _)
        case measure => simp [intOf]; omega
     ·have HKN := Lib.hid ((kidsTo_skip HHS.out).trans HKT.out)
      go_wp2
      go_roundw
      case rel =>
       exact ⟨i + 1, kids, .slice aK nK cK, by omega, by go_num, ⟨HKN.out, by have := HKL.out; omega, HCT.out, HOK.out, HKP.out, HKZ.out, HBR.out⟩⟩
      case measure => simp [intOf]; omega
    ·obtain rfl : i = N := by omega
     have HDL : Hid (D = some (.mk (n1 : Nat) (S2.length : Nat) kids 0)) := Lib.hid (by rw [HDN.out, HKT.out])
     have fr0 := HRR.out.free 0
     have fr1 := HRR.out.free 1
     have fr2 := HRR.out.free 2
     have fr3 := HRR.out.free 3
     have k0 := HRR.out.cell 0
     have k1 := HRR.out.cell 1
     have k2 := HRR.out.cell 2
     have k3 := HRR.out.cell 3
     simp at k0 k1 k2 k3
     have t0 := HCT.out.cell 0
     have t1 := HCT.out.cell 1
     have t2 := HCT.out.cell 2
     have t3 := HCT.out.cell 3
     simp at t0 t1 t2 t3
     have HU := Lib.hid ((((HRR.out.set 0 (.int .i64 (n1 : Int))).set 1 (.int .i64 (S2.length : Int))).set 2 (.slice aK nK cK)).set 3 (.int .i64 0))
     have u0 := HU.out.cell 0
     have u1 := HU.out.cell 1
     have u2 := HU.out.cell 2
     have u3 := HU.out.cell 3
     simp at u0 u1 u2 u3
     have HG := Lib.hid (grown_trans (grown_trans (grown_trans (grown_setCell wr ⟨w.heap.size + 1 + 1, 0, none⟩ (.int .i64 (n1 : Int))) (grown_setCell _ ⟨w.heap.size + 1 + 1, 1, none⟩ (.int .i64 (S2.length : Int)))) (grown_setCell _ ⟨w.heap.size + 1 + 1, 2, none⟩ (.slice aK nK cK))) (grown_setCell _ ⟨w.heap.size + 1 + 1, 3, none⟩ (.int .i64 0)))
     have HBE : Hid (Below w.heap.size w ((((wr.setCell ⟨w.heap.size + 1 + 1, 0, none⟩ (.int .i64 (n1 : Int))).setCell ⟨w.heap.size + 1 + 1, 1, none⟩ (.int .i64 (S2.length : Int))).setCell ⟨w.heap.size + 1 + 1, 2, none⟩ (.slice aK nK cK)).setCell ⟨w.heap.size + 1 + 1, 3, none⟩ (.int .i64 0))) := Lib.hid (((((HBR.out.setCell (p := ⟨w.heap.size + 1 + 1, 0, none⟩) (by show w.heap.size ≤ w.heap.size + 1 + 1; omega) _).setCell (p := ⟨w.heap.size + 1 + 1, 1, none⟩) (by show w.heap.size ≤ w.heap.size + 1 + 1; omega) _).setCell (p := ⟨w.heap.size + 1 + 1, 2, none⟩) (by show w.heap.size ≤ w.heap.size + 1 + 1; omega) _).setCell (p := ⟨w.heap.size + 1 + 1, 3, none⟩) (by show w.heap.size ≤ w.heap.size + 1 + 1; omega) _))
     have HDE : Hid (DenS (fun q => w.heap.size ≤ q ∧ q < ((((wr.setCell ⟨w.heap.size + 1 + 1, 0, none⟩ (.int .i64 (n1 : Int))).setCell ⟨w.heap.size + 1 + 1, 1, none⟩ (.int .i64 (S2.length : Int))).setCell ⟨w.heap.size + 1 + 1, 2, none⟩ (.slice aK nK cK)).setCell ⟨w.heap.size + 1 + 1, 3, none⟩ (.int .i64 0)).heap.size) ((((wr.setCell ⟨w.heap.size + 1 + 1, 0, none⟩ (.int .i64 (n1 : Int))).setCell ⟨w.heap.size + 1 + 1, 1, none⟩ (.int .i64 (S2.length : Int))).setCell ⟨w.heap.size + 1 + 1, 2, none⟩ (.slice aK nK cK)).setCell ⟨w.heap.size + 1 + 1, 3, none⟩ (.int .i64 0)) [.int .i64 (n1 : Int), .int .i64 (S2.length : Int), .slice aK nK cK, .int .i64 0] (.mk (n1 : Nat) (S2.length : Nat) kids 0)) := Lib.hid
      (((HOK.out.kept denSK HG.out (fun q e => by have := HSL.out; have := HZ5.out; left; cases e; show w.heap.size + 1 + 1 < W5.heap.size; omega)).den (l := (n1 : Int)) (i := (S2.length : Int)) (s := 0) (by have := HNS.out; have := HN1.out; unfold I64; omega) (by unfold I64; omega) (by unfold I64; omega)).mono (fun q hq => ⟨by have := hq.1; have := HW5.out.size; omega, hq.2⟩))
     go_wp2
     exact bodyPost_ret (v := .tuple #[.agg #[.int .i64 (n1 : Int), .int .i64 (S2.length : Int), .slice aK nK cK, .int .i64 0], .bool true]) (by simp [results, Try.results44, go_sem, u0, u1, u2, u3]) rfl ⟨_, _, _, _, by rw [HDL.out]; rfl, by rw [HDL.out]; exact HDE.out, HBE.out⟩
end Go.Proofs.Yteiaeaciaglmgaa
set_option linter.unusedVariables false
set_option linter.unusedSimpArgs false
namespace Go.Proofs.Yteiaeaciaglmgaa
open Go.RowKit
theorem DenS.grown {S : Nat → Prop} {w w' : World} {c : List Value} {d : Den} {row : Option Nat} (h : DenS S w c d) (hg : w.grownBy w' row) (hS : ∀ q, S q → q < w.heap.size ∧ row ≠ some q) : DenS S w' c d :=
 h.keep (fun q hq => hg.block q (hS q hq).1 (fun e => (hS q hq).2 e.symm))
/-- frankingref29.deny -/
theorem deny29_any : ∀ (n B : Nat) (w : World) (vs vl va vW vP : Value) (f : Flow) (zs : List Int) (W : List (List Int)) (part : List Int), IsFlow B w vs vl f → IsInts B w va zs → IsMat B w vW W → IsInts B w vP part → B ≤ w.heap.size → checkE f = 0 → (zs.length : Int) = f.senders → StOk f W part → undS f W part ≤ n →
  Calls Try.prog 44 #[.agg #[vs, vl], va, .agg #[vW, vP]] w (DenyPost (denyN f zs n W part) w) := by
 intro n
 induction n with
 | zero =>
  intro B w vs vl va vW vP f zs W part hf hz hW hp hB hck hzl hso hu
  have hlots := (checkE_ok hck).2.2.2.2
  have hst : Settled f W part (settleS f W part) := settle_ok hlots (f.lots.length - W.length) W part (by have := hso.len; omega) hso
  have hend : (settleS f W part).1.length = f.lots.length := by
   rcases hst.end' with h | ⟨h1, h2, h3⟩
   ·exact h.1
   ·have := und_pos h1 h2 h3 0
    have := hst.und
    omega
  refine deny29_step B w vs vl va vW vP f zs W part (settleS f W part).1 (settleS f W part).2 _ (fun _ => none) hf hz hW hp hB hck hzl hso.len rfl hst.ok ?_ (fun h => by omega)
  simp only [denyN]
  rw [if_pos hend]
 | succ n ih =>
  intro B w vs vl va vW vP f zs W part hf hz hW hp hB hck hzl hso hu
  have hlots := (checkE_ok hck).2.2.2.2
  have hst : Settled f W part (settleS f W part) := settle_ok hlots (f.lots.length - W.length) W part (by have := hso.len; omega) hso
  refine deny29_step B w vs vl va vW vP f zs W part (settleS f W part).1 (settleS f W part).2 _ (fun i => denyN f zs n (settleS f W part).1 ((settleS f W part).2 ++ [i])) hf hz hW hp hB hck hzl hso.len rfl hst.ok rfl (fun h1 i W' vW' vP' hi hn hW' hm' hp' => ?_)
  rcases hst.end' with h | ⟨_, h2, h3⟩
  ·omega
  ·have := und_pos (f := f) h1 h2 h3 (i : Int)
   have := hst.und
   exact ih W'.heap.size W' vs vl va vW' vP' f zs _ _ ((hf.below hW' hB).mono (Nat.le_trans hB hW'.size)) ((hz.below hW' hB).mono (Nat.le_trans hB hW'.size)) hm' hp' (Nat.le_refl _) hck hzl (hst.ok.more h2 h3 hi hn) (by omega)
set_option maxHeartbeats 4000000 in
set_option maxRecDepth 100000 in
/-- frankingref29.Deny -/
theorem rdeny29_any (B : Nat) (w : World) (vs vl va : Value) (f : Flow) (zs : List Int) (hf : IsFlow B w vs vl f) (hz : IsInts B w va zs) (hB : B ≤ w.heap.size) :
  Calls Try.prog 17 #[.agg #[vs, vl], va] w fun e w' => ∃ c0 c1 c2 c3, e = .returned (.tuple #[.agg #[c0, c1, c2, c3], .bool (denyB f zs), .int .i64 (errX f zs)]) ∧ DenS (fun q => w.heap.size ≤ q ∧ q < w'.heap.size) w' [c0, c1, c2, c3] (denyR f zs) ∧ Below w.heap.size w w' := by
 have HF := Lib.hid hf
 have HZ := Lib.hid hz
 obtain ⟨rfl, ⟨hs1, hs2⟩, hl'⟩ := hf
 obtain ⟨b, off, cap, ⟨a, rfl, hcap, hmax, ha⟩, hlen, hc⟩ := hl'
 obtain ⟨az, cz, rfl⟩ := hz.form
 clear hz ha hc
 go_enter Try.func17, Try.ntmps17
 go_upto_region 1 with fail
 refine wp_name (fun W1 hW1 => ?_)
 have HX1 : Hid (Box W1 w.heap.size #[.int .i64 f.senders, .slice a f.lots.length cap]) := Lib.hid (by rw [hW1]; exact (Box.new w #[.int .i64 f.senders, .slice a f.lots.length cap] 24).alloc _)
 have HR1 : Hid (CellsN W1 (w.heap.size + 1) #[.int .i64 0, .int .i64 0, .slice none 0 0, .int .i64 0]) := Lib.hid (by
  rw [hW1]
  have h := CellsN.new (w.alloc (.cells #[.int .i64 f.senders, .slice a f.lots.length cap] 24)) #[.int .i64 0, .int .i64 0, .slice none 0 0, .int .i64 0] 31
  rw [World.size_alloc] at h
  exact h)
 have HW1 : Hid (Below w.heap.size w W1) := Lib.hid (by rw [hW1]; exact (box_below' w _).trans ((box_below' _ _).mono (by simp)))
 clear hW1
 have r1 := HX1.out.2
 go_wp2_with fail
 refine (error29_any B W1 _ _ _ f zs (HF.out.below HW1.out hB) (HZ.out.below HW1.out hB) (Nat.le_trans hB HW1.out.size)).mono ?_
 rintro e W2 ⟨rfl, hb2⟩
 have HX2 := Lib.hid (HX1.out.ext hb2)
 have HR2 := Lib.hid (HR1.out.ext hb2)
 have HW2 : Hid (Below w.heap.size w W2) := Lib.hid (HW1.out.trans (hb2.mono HW1.out.size))
 clear hb2 r1
 have r2 := HX2.out.2
 by_cases he : errX f zs = 0
 ·obtain ⟨hck, _, hzl⟩ := errX_ok he
  have HDE : Hid (denyN f zs (undM f f.lots.length) [] [] = denyO f zs) := Lib.hid (by unfold denyO; rw [if_pos he])
  have HDN := Lib.hid (deny29_any (undM f f.lots.length) W2.heap.size W2 _ _ _ (.slice none 0 0) (.slice none 0 0) f zs [] [] ((HF.out.below HW2.out hB).mono (Nat.le_trans hB HW2.out.size)) ((HZ.out.below HW2.out hB).mono (Nat.le_trans hB HW2.out.size)) (IsMatX.nil (fun _ => True) W2).mat (IsIntsX.nil (fun _ => True) W2).ints (Nat.le_refl _) hck hzl (StOk.start f) (by unfold undS; simp))
  have HE := Lib.hid he
  rw [HDE.out] at HDN
  have he' : (errX f zs != 0) = false := by simpa using he
  have hB0 : Hid (denyB f zs = (denyO f zs).isSome) := Lib.hid rfl
  have hR0 : Hid (denyR f zs = (denyO f zs).getD noD) := Lib.hid rfl
  clear he hck hzl
  go_wp2_with fail
  refine HDN.out.mono ?_
  rintro e W3 ⟨y0, y1, y2, y3, rfl, hd, hb3⟩
  rw [← hB0.out]
  rw [← hR0.out] at hd
  obtain ⟨l0, l1, ak, nk, ck, l3, rfl, rfl, rfl, rfl⟩ := hd.form6
  have HD3 := Lib.hid hd
  have HR3 := Lib.hid (HR2.out.ext hb3)
  have HW3 : Hid (Below w.heap.size w W3) := Lib.hid (HW2.out.trans (hb3.mono HW2.out.size))
  have HS3 : Hid (W2.heap.size ≤ W3.heap.size ∧ w.heap.size + 1 < W2.heap.size) := Lib.hid ⟨hb3.size, HR2.out.lt⟩
  have HZ2 : Hid (w.heap.size ≤ W2.heap.size) := Lib.hid HW2.out.size
  clear hd hb3 r2
  obtain ⟨DV, hDV⟩ : ∃ x, denyB f zs = x := ⟨_, rfl⟩
  rw [hDV]
  have fr0 := HR3.out.free 0
  have fr1 := HR3.out.free 1
  have fr2 := HR3.out.free 2
  have fr3 := HR3.out.free 3
  have k0 := HR3.out.cell 0
  have k1 := HR3.out.cell 1
  have k2 := HR3.out.cell 2
  have k3 := HR3.out.cell 3
  simp at k0 k1 k2 k3
  have HU := Lib.hid (((((HR3.out.set 0 (.int .i64 l0)).set 1 (.int .i64 l1)).set 2 (.slice ak nk ck)).set 3 (.int .i64 l3)).alloc (.cells #[.int .i64 l0, .int .i64 l1, .slice ak nk ck, .int .i64 l3] 31))
  have u0 := HU.out.cell 0
  have u1 := HU.out.cell 1
  have u2 := HU.out.cell 2
  have u3 := HU.out.cell 3
  simp at u0 u1 u2 u3
  have HBE : Hid (Below w.heap.size w (((((W3.setCell ⟨w.heap.size + 1, 0, none⟩ (.int .i64 l0)).setCell ⟨w.heap.size + 1, 1, none⟩ (.int .i64 l1)).setCell ⟨w.heap.size + 1, 2, none⟩ (.slice ak nk ck)).setCell ⟨w.heap.size + 1, 3, none⟩ (.int .i64 l3)).alloc (.cells #[.int .i64 l0, .int .i64 l1, .slice ak nk ck, .int .i64 l3] 31))) := Lib.hid ((((((HW3.out.setCell (p := ⟨w.heap.size + 1, 0, none⟩) (by show w.heap.size ≤ w.heap.size + 1; omega) _).setCell (p := ⟨w.heap.size + 1, 1, none⟩) (by show w.heap.size ≤ w.heap.size + 1; omega) _).setCell (p := ⟨w.heap.size + 1, 2, none⟩) (by show w.heap.size ≤ w.heap.size + 1; omega) _).setCell (p := ⟨w.heap.size + 1, 3, none⟩) (by show w.heap.size ≤ w.heap.size + 1; omega) _)).alloc (by simpa [World.setCell] using HW3.out.size) _)
  have HGR := Lib.hid (grown_trans (grown_trans (grown_trans (grown_setCell W3 ⟨w.heap.size + 1, 0, none⟩ (.int .i64 l0)) (grown_setCell _ ⟨w.heap.size + 1, 1, none⟩ (.int .i64 l1))) (grown_setCell _ ⟨w.heap.size + 1, 2, none⟩ (.slice ak nk ck))) (grown_setCell _ ⟨w.heap.size + 1, 3, none⟩ (.int .i64 l3)))
  have HDF : Hid (DenS (fun q => w.heap.size ≤ q ∧ q < (((((W3.setCell ⟨w.heap.size + 1, 0, none⟩ (.int .i64 l0)).setCell ⟨w.heap.size + 1, 1, none⟩ (.int .i64 l1)).setCell ⟨w.heap.size + 1, 2, none⟩ (.slice ak nk ck)).setCell ⟨w.heap.size + 1, 3, none⟩ (.int .i64 l3)).alloc (.cells #[.int .i64 l0, .int .i64 l1, .slice ak nk ck, .int .i64 l3] 31)).heap.size) (((((W3.setCell ⟨w.heap.size + 1, 0, none⟩ (.int .i64 l0)).setCell ⟨w.heap.size + 1, 1, none⟩ (.int .i64 l1)).setCell ⟨w.heap.size + 1, 2, none⟩ (.slice ak nk ck)).setCell ⟨w.heap.size + 1, 3, none⟩ (.int .i64 l3)).alloc (.cells #[.int .i64 l0, .int .i64 l1, .slice ak nk ck, .int .i64 l3] 31)) [.int .i64 l0, .int .i64 l1, .slice ak nk ck, .int .i64 l3] (denyR f zs)) := Lib.hid (by
   have h1 := HD3.out.grown HGR.out (fun q hq => ⟨hq.2, fun e => by
    have := HS3.out
    have : w.heap.size + 1 = q := by cases e; rfl
    omega⟩)
   refine (h1.keep (fun q hq => (box_below' _ _).block q (by simpa [World.setCell] using hq.2))).mono (fun q hq => ⟨by have := HZ2.out; omega, ?_⟩)
   have := hq.2
   simp [World.setCell]
   omega)
  have hzz := HR3.out.lt
  go_wp2
  exact bodyPost_ret (v := .tuple #[.agg #[.int .i64 l0, .int .i64 l1, .slice ak nk ck, .int .i64 l3], .bool DV, .int .i64 0]) (by simp [results, Try.results17, go_sem, u0, u1, u2, u3]) rfl ⟨_, _, _, _, by rw [HE.out, hDV], HDF.out, HBE.out⟩
 ·have hem := err_make he
  have HEM := Lib.hid hem
  have he' : (errX f zs != 0) = true := by simpa using he
  clear he hem
  have fr0 := HR2.out.free 0
  have fr1 := HR2.out.free 1
  have fr2 := HR2.out.free 2
  have fr3 := HR2.out.free 3
  have k0 := HR2.out.cell 0
  have k1 := HR2.out.cell 1
  have k2 := HR2.out.cell 2
  have k3 := HR2.out.cell 3
  simp at k0 k1 k2 k3
  have HU := Lib.hid (((((HR2.out.set 0 (.int .i64 0)).set 1 (.int .i64 0)).set 2 (.slice none 0 0)).set 3 (.int .i64 0)))
  have u0 := HU.out.cell 0
  have u1 := HU.out.cell 1
  have u2 := HU.out.cell 2
  have u3 := HU.out.cell 3
  simp at u0 u1 u2 u3
  have HBE : Hid (Below w.heap.size w ((((W2.setCell ⟨w.heap.size + 1, 0, none⟩ (.int .i64 0)).setCell ⟨w.heap.size + 1, 1, none⟩ (.int .i64 0)).setCell ⟨w.heap.size + 1, 2, none⟩ (.slice none 0 0)).setCell ⟨w.heap.size + 1, 3, none⟩ (.int .i64 0))) := Lib.hid (((((HW2.out.setCell (p := ⟨w.heap.size + 1, 0, none⟩) (by show w.heap.size ≤ w.heap.size + 1; omega) _).setCell (p := ⟨w.heap.size + 1, 1, none⟩) (by show w.heap.size ≤ w.heap.size + 1; omega) _).setCell (p := ⟨w.heap.size + 1, 2, none⟩) (by show w.heap.size ≤ w.heap.size + 1; omega) _).setCell (p := ⟨w.heap.size + 1, 3, none⟩) (by show w.heap.size ≤ w.heap.size + 1; omega) _))
  obtain ⟨EV, hEV⟩ : ∃ x, errX f zs = x := ⟨_, rfl⟩
  rw [hEV] at he' ⊢
  go_wp2
  exact bodyPost_ret (v := .tuple #[.agg #[.int .i64 0, .int .i64 0, .slice none 0 0, .int .i64 0], .bool false, .int .i64 EV]) (by simp [results, Try.results17, go_sem, u0, u1, u2, u3]) rfl ⟨_, _, _, _, by rw [HEM.out.2.2.1, hEV], by rw [HEM.out.2.2.2]; exact DenS.zero _ _, HBE.out⟩
end Go.Proofs.Yteiaeaciaglmgaa
set_option linter.unusedVariables false
set_option linter.unusedSimpArgs false
namespace Go.Proofs.Yteiaeaciaglmgaa
open Go.RowKit
def IsDen (B : Nat) (w : World) (c : List Value) (d : Den) : Prop := DenS (fun q => q < B) w c d
theorem IsDen.below {B B' : Nat} {w w' : World} {c : List Value} {d : Den} (h : IsDen B w c d) (hb : Below B' w w') (hB : B ≤ B') : IsDen B w' c d := h.keep (fun q hq => hb.block q (by omega))
theorem IsDen.mono {B B' : Nat} {w : World} {c : List Value} {d : Den} (h : IsDen B w c d) (hB : B ≤ B') : IsDen B' w c d := DenS.mono h (fun q hq => by omega)
theorem rkTo_skip {g : Int → Den → Bool} {part : List Int} {kids : List Den} {i : Nat} (h : hasB part (i : Int) = true) (hr : rkTo g part kids i = true) : rkTo g part kids (i + 1) = true := by simp only [rkTo, hr, h]; rfl
theorem rkTo_more {g : Int → Den → Bool} {part : List Int} {kids : List Den} {i : Nat} (hr : rkTo g part kids i = true) (hg : g (i : Int) (denAt kids (freeK part i)) = true) : rkTo g part kids (i + 1) = true := by simp only [rkTo, hr, hg]; simp
theorem rkTo_stop {g : Int → Den → Bool} {part : List Int} {kids : List Den} {i n : Nat} (hi : i < n) (h : hasB part (i : Int) = false) (hg : g (i : Int) (denAt kids (freeK part i)) = false) : rkTo g part kids n = false := by
 cases e : rkTo g part kids n with
 | false => rfl
 | true => have := rkTo_iff.1 e i hi h; rw [hg] at this; cases this
theorem freeK_skip {part : List Int} {i : Nat} (h : hasB part (i : Int) = true) : freeK part (i + 1) = freeK part i := by simp only [freeK]; rw [if_pos h]
theorem freeK_more {part : List Int} {i : Nat} (h : hasB part (i : Int) = false) : freeK part (i + 1) = freeK part i + 1 := by simp only [freeK]; rw [if_neg (by rw [h]; simp)]
set_option maxHeartbeats 8000000 in
set_option maxRecDepth 100000 in
theorem right29_step (B : Nat) (w : World) (vs vl va vW vP : Value) (cd : List Value) (f : Flow) (zs : List Int) (W : List (List Int)) (part : List Int) (S1 : List (List Int)) (S2 : List Int) (p : Den) (R RK : Bool) (g : Int → Den → Bool)
  (hf : IsFlow B w vs vl f) (hz : IsInts B w va zs) (hW : IsMat B w vW W) (hp : IsInts B w vP part) (hd : IsDen B w cd p) (hB : B ≤ w.heap.size) (hck : checkE f = 0) (hzl : (zs.length : Int) = f.senders) (hWl : W.length ≤ f.lots.length)
  (hS : settleS f W part = (S1, S2)) (hso : StOk f S1 S2)
  (hR : R = if p.lot = -1 then decide (p.inn = 0) && (decide (p.kids.length = 0) && (decide (0 ≤ p.sender) && (decide (p.sender < f.senders) && badB f zs S1 S2 p.sender.toNat)))
   else decide (S1.length < f.lots.length) && (decide (p.lot = (S1.length : Nat)) && (decide (p.inn = (S2.length : Nat)) && (decide (p.sender = 0) && (decide ((p.kids.length : Int) = (lotAt f.lots S1.length).ins.length - S2.length) && RK)))))
  (hRK : S1.length < f.lots.length → RK = rkTo g S2 p.kids (lotAt f.lots S1.length).ins.length)
  (hih : S1.length < f.lots.length → ∀ (i j : Nat) (W' : World) (vW' vP' : Value) (cd' : List Value), i < (lotAt f.lots S1.length).ins.length → hasB S2 (i : Int) = false → j < p.kids.length → Below w.heap.size w W' → IsDen B W' cd' (denAt p.kids j) → IsMat W'.heap.size W' vW' S1 → IsInts W'.heap.size W' vP' (S2 ++ [(i : Int)]) →
   Calls Try.prog 47 #[.agg #[vs, vl], va, .agg cd'.toArray, .agg #[vW', vP']] W' fun e w' => e = .returned (.bool (g (i : Int) (denAt p.kids j))) ∧ Below W'.heap.size W' w') :
  Calls Try.prog 47 #[.agg #[vs, vl], va, .agg cd.toArray, .agg #[vW, vP]] w fun e w' => e = .returned (.bool R) ∧ Below w.heap.size w w' := by
 have HF := Lib.hid hf
 have HZI := Lib.hid hz
 have HWM := Lib.hid hW
 have HPI := Lib.hid hp
 have HCK := Lib.hid hck
 have HSO := Lib.hid hso
 have HIH := Lib.hid hih
 have HZL := Lib.hid hzl
 have HWL := Lib.hid hWl
 have HSE := Lib.hid hS
 have HRV := Lib.hid hR
 have HRK := Lib.hid hRK
 obtain ⟨h0, h64, h2000, _, _⟩ := checkE_ok hck
 obtain ⟨rfl, ⟨hs1, hs2⟩, hl⟩ := hf
 obtain ⟨b, off, cap, ⟨a, rfl, hcap, hmax, ha⟩, hlen, hc⟩ := hl
 obtain ⟨bz, oz, cz, ⟨az, rfl, hcz1, hcz2, haz⟩, hzl2, _, hzc⟩ := hz
 obtain ⟨bw, ow, cw, ⟨aw, rfl, _⟩, _⟩ := hW
 obtain ⟨apt, cpt, rfl⟩ := hp.form
 obtain ⟨ak, ck, rfl, _, _, _, hkl, bk, ok, hak, hkk⟩ := hd.form
 have HC := Lib.hid hc
 have HA := Lib.hid ha
 have HZC := Lib.hid hzc
 have HAZ := Lib.hid haz
 have HKK := Lib.hid hkk
 have HAK := Lib.hid hak
 have HKL := Lib.hid hkl
 obtain ⟨l, hl⟩ : ∃ x, p.lot = x := ⟨_, rfl⟩
 obtain ⟨i, hi⟩ : ∃ x, p.inn = x := ⟨_, rfl⟩
 obtain ⟨s, hs⟩ : ∃ x, p.sender = x := ⟨_, rfl⟩
 obtain ⟨nk, hnk⟩ : ∃ x, p.kids.length = x := ⟨_, rfl⟩
 rw [hl, hi, hs, hnk] at HRV ⊢
 rw [hnk] at HAK HKL HKK HIH
 clear hc ha hp hck hso hih hzl hWl hS hR hRK hzc haz hd hkl hak hkk hl hi hs hnk
 go_enter Try.func47, Try.ntmps47
 go_upto_region 1 with fail
 refine wp_name (fun W1 hW1 => ?_)
 have HX1 : Hid (Box W1 w.heap.size #[.int .i64 f.senders, .slice a f.lots.length cap]) := Lib.hid (by rw [hW1]; exact ((Box.new w #[.int .i64 f.senders, .slice a f.lots.length cap] 24).alloc _).alloc _)
 have HD1 : Hid (Box W1 (w.heap.size + 1) #[.int .i64 l, .int .i64 i, .slice ak nk ck, .int .i64 s]) := Lib.hid (by
  rw [hW1]
  have h := Box.new (w.alloc (.cells #[.int .i64 f.senders, .slice a f.lots.length cap] 24)) #[.int .i64 l, .int .i64 i, .slice ak nk ck, .int .i64 s] 31
  rw [World.size_alloc] at h
  exact h.alloc _)
 have HS1 : Hid (CellsN W1 (w.heap.size + 1 + 1) #[.slice aw W.length cw, .slice apt part.length cpt]) := Lib.hid (by
  rw [hW1]
  have h := CellsN.new ((w.alloc (.cells #[.int .i64 f.senders, .slice a f.lots.length cap] 24)).alloc (.cells #[.int .i64 l, .int .i64 i, .slice ak nk ck, .int .i64 s] 31)) #[.slice aw W.length cw, .slice apt part.length cpt] 82
  simp only [World.size_alloc] at h
  exact h)
 have HW1 : Hid (Below w.heap.size w W1) := Lib.hid (by rw [hW1]; exact ((box_below' w _).trans ((box_below' _ _).mono (by simp))).trans ((box_below' _ _).mono (by simp; omega)))
 clear hW1
 have r1 := HX1.out.2
 have m0 := HS1.out.cell 0
 have m1 := HS1.out.cell 1
 simp at m0 m1
 have hz3 := HS1.out.lt
 go_wp2_with fail
 refine (settled29X (fun q => q ≠ w.heap.size ∧ q ≠ w.heap.size + 1 ∧ q ≠ w.heap.size + 1 + 1) B W1 _ _ _ _ f W part (HF.out.below HW1.out hB) ((HWM.out.below HW1.out hB).matX (Nat.le_trans hB HW1.out.size) (fun q hq => ⟨by omega, by omega, by omega⟩)) ((HPI.out.below HW1.out hB).kind (Nat.le_trans hB HW1.out.size) (fun q hq => ⟨by omega, by omega, by omega⟩)) (Nat.le_trans hB HW1.out.size) (fun q hq => ⟨by omega, by omega, by omega⟩) (fun q hq => ⟨by omega, by omega, by omega⟩) HWL.out h2000).mono ?_
 rintro e W2 ⟨v1, v2, rfl, hm2, hp2, hb2⟩
 rw [HSE.out] at hm2 hp2
 have hm2' : IsMatX (fun q => q ≠ w.heap.size ∧ q ≠ w.heap.size + 1 ∧ q ≠ w.heap.size + 1 + 1) W2 v1 S1 := hm2
 have hp2' : IsIntsX (fun q => q ≠ w.heap.size ∧ q ≠ w.heap.size + 1 ∧ q ≠ w.heap.size + 1 + 1) W2 v2 S2 := hp2
 obtain ⟨a1, c1, rfl⟩ := hm2'.form
 obtain ⟨a2, c2, rfl⟩ := hp2'.form
 have HM2 := Lib.hid hm2'
 have HP2 := Lib.hid hp2'
 have HX2 := Lib.hid (HX1.out.ext hb2)
 have HD2 := Lib.hid (HD1.out.ext hb2)
 have HS2 := Lib.hid (HS1.out.ext hb2)
 have HW2 : Hid (Below w.heap.size w W2) := Lib.hid (HW1.out.trans (hb2.mono HW1.out.size))
 clear hm2 hp2 hm2' hp2' hb2 r1 m0 m1 hz3
 obtain ⟨n1, hn1⟩ : ∃ n, S1.length = n := ⟨_, rfl⟩
 obtain ⟨n2, hn2⟩ : ∃ n, S2.length = n := ⟨_, rfl⟩
 have HN1 := Lib.hid hn1
 have HN2 := Lib.hid hn2
 rw [hn1] at HM2 HRV HRK HIH
 rw [hn2] at HP2 HRV
 rw [hn1, hn2]
 clear hn1 hn2
 have g0 := HS2.out.free 0
 have g1 := HS2.out.free 1
 have m0 := HS2.out.cell 0
 have m1 := HS2.out.cell 1
 simp at m0 m1
 go_upto_region 2 with fail
 refine wp_name (fun W3 hW3 => ?_)
 have HX3 : Hid (Box W3 w.heap.size #[.int .i64 f.senders, .slice a f.lots.length cap]) := Lib.hid (by rw [hW3]; exact (HX2.out.grown (grown_setCell _ ⟨w.heap.size + 1 + 1, 0, none⟩ _) (by simp only [ne_eq, Option.some.injEq]; omega)).grown (grown_setCell _ ⟨w.heap.size + 1 + 1, 1, none⟩ _) (by simp only [ne_eq, Option.some.injEq]; omega))
 have HD3 : Hid (Box W3 (w.heap.size + 1) #[.int .i64 l, .int .i64 i, .slice ak nk ck, .int .i64 s]) := Lib.hid (by rw [hW3]; exact (HD2.out.grown (grown_setCell _ ⟨w.heap.size + 1 + 1, 0, none⟩ _) (by simp only [ne_eq, Option.some.injEq]; omega)).grown (grown_setCell _ ⟨w.heap.size + 1 + 1, 1, none⟩ _) (by simp only [ne_eq, Option.some.injEq]; omega))
 have HS3 : Hid (Box W3 (w.heap.size + 1 + 1) #[.slice a1 n1 c1, .slice a2 n2 c2]) := Lib.hid (by rw [hW3]; simpa using ((HS2.out.set 0 (.slice a1 n1 c1)).set 1 (.slice a2 n2 c2)).box)
 have HM3 : Hid (IsMatX (fun q => q ≠ w.heap.size ∧ q ≠ w.heap.size + 1 ∧ q ≠ w.heap.size + 1 + 1) W3 (.slice a1 n1 c1) S1) := Lib.hid (by rw [hW3]; exact (HM2.out.setCell (a := ⟨w.heap.size + 1 + 1, 0, none⟩) (by simp) _).setCell (a := ⟨w.heap.size + 1 + 1, 1, none⟩) (by simp) _)
 have HP3 : Hid (IsIntsX (fun q => q ≠ w.heap.size ∧ q ≠ w.heap.size + 1 ∧ q ≠ w.heap.size + 1 + 1) W3 (.slice a2 n2 c2) S2) := Lib.hid (by rw [hW3]; exact (HP2.out.setCellX (a := ⟨w.heap.size + 1 + 1, 0, none⟩) (by simp) _).setCellX (a := ⟨w.heap.size + 1 + 1, 1, none⟩) (by simp) _)
 have HW3 : Hid (Below w.heap.size w W3) := Lib.hid (by rw [hW3]; exact (HW2.out.setCell (p := ⟨w.heap.size + 1 + 1, 0, none⟩) (by show w.heap.size ≤ w.heap.size + 1 + 1; omega) _).setCell (p := ⟨w.heap.size + 1 + 1, 1, none⟩) (by show w.heap.size ≤ w.heap.size + 1 + 1; omega) _)
 clear hW3 g0 g1 m0 m1
 have HDB : Hid (∀ n, Below w.heap.size w (W3.drewN n)) := Lib.hid fun n => below_drewN HW3.out n
 have r3 := HX3.out.2
 have d3 := HD3.out.2
 have m3 := HS3.out.2
 by_cases hl1 : l = -1
 ·subst hl1
  have HRV2 : Hid (R = (decide (i = 0) && (decide (nk = 0) && (decide (0 ≤ s) && (decide (s < f.senders) && badB f zs S1 S2 s.toNat))))) := Lib.hid (by rw [HRV.out, if_pos rfl])
  clear HRV HRK HIH
  by_cases hi0 : i = 0
  ·subst hi0
   by_cases hk0 : nk = 0
   ·subst hk0
    by_cases hs0 : 0 ≤ s
    ·have hs01 : decide (0 ≤ s) = true := decide_eq_true hs0
     by_cases hss : s < f.senders
     ·clear hs01
      obtain ⟨sn, rfl⟩ : ∃ n : Nat, s = n := ⟨s.toNat, by omega⟩
      have HRB : Hid (R = badB f zs S1 S2 sn) := Lib.hid (by rw [HRV2.out]; simp [hss])
      clear HRV2
      have hiz : sn < zs.length := by have := HZL.out; omega
      obtain rfl : az = some ⟨bz, oz, none⟩ := by rcases HAZ.out with h | h; exact h; omega
      have HKQ : Hid (∀ W', Below W3.heap.size W3 W' → W'.cell? ⟨bz, oz + sn, none⟩ = some (.int .i64 (nth zs sn)) ∧ W'.cell? ⟨w.heap.size, 0, none⟩ = some (.int .i64 f.senders) ∧ W'.cell? ⟨w.heap.size, 1, none⟩ = some (.slice a f.lots.length cap) ∧ W'.cell? ⟨w.heap.size + 1 + 1, 0, none⟩ = some (.slice a1 n1 c1) ∧ W'.cell? ⟨w.heap.size + 1 + 1, 1, none⟩ = some (.slice a2 n2 c2) ∧
        W'.cell? ⟨w.heap.size + 1, 1, none⟩ = some (.int .i64 0) ∧ W'.cell? ⟨w.heap.size + 1, 2, none⟩ = some (.slice ak 0 ck) ∧ W'.cell? ⟨w.heap.size + 1, 3, none⟩ = some (.int .i64 (sn : Int))) := Lib.hid fun W' hW' => by
       have hWW := HW3.out.trans (hW'.mono HW3.out.size)
       exact ⟨(hWW.cell (p := ⟨bz, oz + sn, none⟩) (by have := (HZC.out sn hiz).1; show bz < _; omega)).trans (HZC.out sn hiz).2, (HX3.out.ext hW').2 0, (HX3.out.ext hW').2 1, (HS3.out.ext hW').2 0, (HS3.out.ext hW').2 1, (HD3.out.ext hW').2 1, (HD3.out.ext hW').2 2, (HD3.out.ext hW').2 3⟩
      have HPL : Hid (∀ W', Below W3.heap.size W3 W' → Calls Try.prog 71 #[.agg #[.int .i64 f.senders, .slice a f.lots.length cap], .agg #[.slice a1 n1 c1, .slice a2 n2 c2], .int .i64 (sn : Int)] W' fun e w' => e = .returned (.int .i64 (posS f S1 S2 sn)) ∧ Below W'.heap.size W' w') := Lib.hid fun W' hW' => by
       have hWW := HW3.out.trans (hW'.mono HW3.out.size)
       exact place29_any W'.heap.size W' _ _ _ _ f S1 S2 sn ((HF.out.below hWW hB).mono (Nat.le_trans hB hWW.size)) (HM3.out.below hW').mat (HP3.out.belowX hW').ints (Nat.le_refl _) HCK.out HSO.out
      have HREI : Hid (∀ (W' : World), Below W3.heap.size W3 W' → Calls Try.prog 70 #[.agg #[.int .i64 f.senders, .slice a f.lots.length cap], .int .i64 (posS f S1 S2 sn), .int .i64 (nth zs sn)] W' fun en w' => en = .returned (.bool (rAt f 0 (posS f S1 S2 sn) (nth zs sn))) ∧ Below W'.heap.size W' w') := Lib.hid fun W' hW' => by
       have hWW := HW3.out.trans (hW'.mono HW3.out.size)
       exact reach29 B W' _ _ f _ _ (HF.out.below hWW hB) (Nat.le_trans hB hWW.size) HCK.out
      have HBI : Hid (R = !rAt f 0 (posS f S1 S2 sn) (nth zs sn)) := Lib.hid (by rw [HRB.out]; rfl)
      obtain ⟨zv, hzv⟩ : ∃ x, nth zs sn = x := ⟨_, rfl⟩
      obtain ⟨pv, hpv⟩ : ∃ x, posS f S1 S2 sn = x := ⟨_, rfl⟩
      rw [hzv] at HKQ HREI HBI
      rw [hpv] at HPL HREI HBI
      obtain ⟨RB, hRB⟩ : ∃ x, rAt f 0 pv zv = x := ⟨_, rfl⟩
      rw [hRB] at HREI HBI
      clear hzv hpv hRB HRB hs0
      go_upto_region 3 with fail
      clear r3 d3 m3
      obtain ⟨V, hV⟩ : ∃ V : List (Option Value), V = [some (.pointer (some ⟨w.heap.size + 1, 1, none⟩)), some (.int .i64 0), some (.bool true), some (.bool true), some (.pointer (some ⟨w.heap.size + 1, 2, none⟩)), some (.slice ak 0 ck), some (.int .i64 0), some (.bool true), some (.bool true), some (.bool true), some (.pointer (some ⟨w.heap.size + 1, 3, none⟩)), some (.int .i64 (sn : Int)), some (.bool true), some (.bool true), some (.bool true), some (.pointer (some ⟨w.heap.size + 1, 3, none⟩)), some (.int .i64 (sn : Int)), some (.pointer (some ⟨w.heap.size, 0, none⟩)), some (.int .i64 f.senders), some (.bool true), some (.bool true), some (.bool true), some (.agg #[.int .i64 f.senders, .slice a f.lots.length cap]), some (.agg #[.int .i64 f.senders, .slice a f.lots.length cap]), some (.agg #[.slice a1 n1 c1, .slice a2 n2 c2]), some (.pointer (some ⟨w.heap.size + 1, 3, none⟩)), some (.int .i64 (sn : Int)), some (.int .i64 pv), some (.slice (some ⟨bz, oz, none⟩) zs.length cz), some (.pointer (some ⟨w.heap.size + 1, 3, none⟩)), some (.int .i64 (sn : Int)), some (.pointer (some ⟨bz, oz + sn, none⟩)), some (.int .i64 zv), some (.bool RB), some (.bool (!RB)), some (.bool (!RB)), some (.bool (!RB))] := ⟨_, rfl⟩
      have HVV := Lib.hid hV
      clear hV
      refine wp_region_V [some 18, some 19, some 20, some 21, some 22, some 23, some 24, some 25, some 26, some 27, some 28, some 29, some 30, some 31, some 32, some 33, some 34, some 35, some 36, some 37, some 38, some 39, some 40, some 41, some 42, some 43, some 44, some 45, some 46, some 47, some 48, some 49, some 50, some 51, some 52, some 53, some 8] (fun L w' xs => ValsAt V L xs ∧ (Below W3.heap.size W3 w')) (by kernel_rfl) (by kernel_rfl) (by rfl) (by rfl) (by rfl) ?_ ?_ ?_
      focus
       exact fun xs => ⟨ValsAt.none _ _, (Below.refl _ _).drew⟩
      focus
       refine ⟨?_, ?_, ?_, ?_, ?_, ?_, ?_, ?_, ?_, ?_, ?_, ?_, ?_, ?_, ?_, ?_, ?_, ?_, ?_, ?_, ?_, ?_, ?_, ?_, ?_, ?_, ?_, ?_, ?_, ?_, ?_, ?_, ?_, ?_, ?_, ?_, ?_, trivial⟩
       all_goals
        intro L a' w' xs hi hd hf hJ K hK
        obtain ⟨hv, hb⟩ := hJ
        have HF := Lib.hid hf
        have HVA := Lib.hid hv
        have HLI := Lib.hid hi
        clear hf hv hi
       focus
        clear hd
        obtain ⟨ρ, hρ⟩ : ∃ ρ, a'.eval = ρ := ⟨_, rfl⟩
        have hcst : ∀ v, ρ (.const v) = v := fun v => (congrFun hρ (.const v)).symm
        have l6 : ρ (.tmp 6) = .pointer (some ⟨w.heap.size + 1, 0, none⟩) := (congrFun hρ (.tmp 6)).symm.trans (HF.out.lo 6 rfl)
        rw [if_pos (by simp [Region.wanted])]
        unfold Oper.wp
        rw [hρ]
        clear hρ
        go_simp
        exact hK.out _ _ ⟨HVA.out.set (i := 0) (by rw [HVV.out]; rfl), hb⟩
       focus
        obtain ⟨d0, _⟩ := hd
        obtain ⟨ρ, hρ⟩ : ∃ ρ, a'.eval = ρ := ⟨_, rfl⟩
        have hcst : ∀ v, ρ (.const v) = v := fun v => (congrFun hρ (.const v)).symm
        have v0 : ρ (.tmp 18) = .pointer (some ⟨w.heap.size + 1, 1, none⟩) := (congrFun hρ (.tmp 18)).symm.trans ((HF.out.ev 0 rfl d0).trans (HVA.out 0 _ (by rw [HVV.out]; rfl) d0))
        obtain ⟨k0, k1, k2, k3, k4, k5, k6, k7⟩ := HKQ.out _ hb
        rw [if_pos (by simp [Region.wanted])]
        unfold Oper.wp
        rw [hρ]
        clear hρ
        go_simp
        exact hK.out _ _ ⟨HVA.out.set (i := 1) (by rw [HVV.out]; rfl), hb⟩
       focus
        obtain ⟨d1, _⟩ := hd
        obtain ⟨ρ, hρ⟩ : ∃ ρ, a'.eval = ρ := ⟨_, rfl⟩
        have hcst : ∀ v, ρ (.const v) = v := fun v => (congrFun hρ (.const v)).symm
        have v1 : ρ (.tmp 19) = .int .i64 0 := (congrFun hρ (.tmp 19)).symm.trans ((HF.out.ev 1 rfl d1).trans (HVA.out 1 _ (by rw [HVV.out]; rfl) d1))
        rw [if_pos (by simp [Region.wanted])]
        unfold Oper.wp
        rw [hρ]
        clear hρ
        go_simp
        exact hK.out _ _ ⟨HVA.out.set (i := 2) (by rw [HVV.out]; rfl), hb⟩
       focus
        obtain ⟨d2, _⟩ := hd
        obtain ⟨ρ, hρ⟩ : ∃ ρ, a'.eval = ρ := ⟨_, rfl⟩
        have hcst : ∀ v, ρ (.const v) = v := fun v => (congrFun hρ (.const v)).symm
        have v2 : ρ (.tmp 20) = .bool true := (congrFun hρ (.tmp 20)).symm.trans ((HF.out.ev 2 rfl d2).trans (HVA.out 2 _ (by rw [HVV.out]; rfl) d2))
        rw [if_pos (by simp [Region.wanted])]
        unfold Oper.wp
        rw [hρ]
        clear hρ
        go_simp
        exact hK.out _ _ ⟨HVA.out.set (i := 3) (by rw [HVV.out]; rfl), hb⟩
       focus
        obtain ⟨d3, _⟩ := hd
        obtain ⟨ρ, hρ⟩ : ∃ ρ, a'.eval = ρ := ⟨_, rfl⟩
        have hcst : ∀ v, ρ (.const v) = v := fun v => (congrFun hρ (.const v)).symm
        have l6 : ρ (.tmp 6) = .pointer (some ⟨w.heap.size + 1, 0, none⟩) := (congrFun hρ (.tmp 6)).symm.trans (HF.out.lo 6 rfl)
        rw [if_pos (wanted_yes (d := 21) rfl rfl ((HF.out.ev 3 rfl d3).trans (HVA.out 3 _ (by rw [HVV.out]; rfl) d3)))]
        unfold Oper.wp
        rw [hρ]
        clear hρ
        go_simp
        exact hK.out _ _ ⟨HVA.out.set (i := 4) (by rw [HVV.out]; rfl), hb⟩
       focus
        obtain ⟨d4, d3, _⟩ := hd
        obtain ⟨ρ, hρ⟩ : ∃ ρ, a'.eval = ρ := ⟨_, rfl⟩
        have hcst : ∀ v, ρ (.const v) = v := fun v => (congrFun hρ (.const v)).symm
        have v4 : ρ (.tmp 22) = .pointer (some ⟨w.heap.size + 1, 2, none⟩) := (congrFun hρ (.tmp 22)).symm.trans ((HF.out.ev 4 rfl d4).trans (HVA.out 4 _ (by rw [HVV.out]; rfl) d4))
        obtain ⟨k0, k1, k2, k3, k4, k5, k6, k7⟩ := HKQ.out _ hb
        rw [if_pos (wanted_yes (d := 21) rfl rfl ((HF.out.ev 3 rfl d3).trans (HVA.out 3 _ (by rw [HVV.out]; rfl) d3)))]
        unfold Oper.wp
        rw [hρ]
        clear hρ
        go_simp
        exact hK.out _ _ ⟨HVA.out.set (i := 5) (by rw [HVV.out]; rfl), hb⟩
       focus
        obtain ⟨d5, d3, _⟩ := hd
        obtain ⟨ρ, hρ⟩ : ∃ ρ, a'.eval = ρ := ⟨_, rfl⟩
        have hcst : ∀ v, ρ (.const v) = v := fun v => (congrFun hρ (.const v)).symm
        have v5 : ρ (.tmp 23) = .slice ak 0 ck := (congrFun hρ (.tmp 23)).symm.trans ((HF.out.ev 5 rfl d5).trans (HVA.out 5 _ (by rw [HVV.out]; rfl) d5))
        rw [if_pos (wanted_yes (d := 21) rfl rfl ((HF.out.ev 3 rfl d3).trans (HVA.out 3 _ (by rw [HVV.out]; rfl) d3)))]
        unfold Oper.wp
        rw [hρ]
        clear hρ
        go_simp
        exact hK.out _ _ ⟨HVA.out.set (i := 6) (by rw [HVV.out]; rfl), hb⟩
       focus
        obtain ⟨d6, d3, _⟩ := hd
        obtain ⟨ρ, hρ⟩ : ∃ ρ, a'.eval = ρ := ⟨_, rfl⟩
        have hcst : ∀ v, ρ (.const v) = v := fun v => (congrFun hρ (.const v)).symm
        have v6 : ρ (.tmp 24) = .int .i64 0 := (congrFun hρ (.tmp 24)).symm.trans ((HF.out.ev 6 rfl d6).trans (HVA.out 6 _ (by rw [HVV.out]; rfl) d6))
        rw [if_pos (wanted_yes (d := 21) rfl rfl ((HF.out.ev 3 rfl d3).trans (HVA.out 3 _ (by rw [HVV.out]; rfl) d3)))]
        unfold Oper.wp
        rw [hρ]
        clear hρ
        go_simp
        exact hK.out _ _ ⟨HVA.out.set (i := 7) (by rw [HVV.out]; rfl), hb⟩
       focus
        obtain ⟨d3, d7, _⟩ := hd
        obtain ⟨ρ, hρ⟩ : ∃ ρ, a'.eval = ρ := ⟨_, rfl⟩
        have hcst : ∀ v, ρ (.const v) = v := fun v => (congrFun hρ (.const v)).symm
        have v3 : ρ (.tmp 21) = .bool true := (congrFun hρ (.tmp 21)).symm.trans ((HF.out.ev 3 rfl d3).trans (HVA.out 3 _ (by rw [HVV.out]; rfl) d3))
        have v7 : ρ (.tmp 25) = .bool true := (congrFun hρ (.tmp 25)).symm.trans ((HF.out.ev 7 rfl d7).trans (HVA.out 7 _ (by rw [HVV.out]; rfl) d7))
        rw [if_pos (by simp [Region.wanted])]
        unfold Oper.wp
        rw [hρ]
        clear hρ
        go_simp
        exact hK.out _ _ ⟨HVA.out.set (i := 8) (by rw [HVV.out]; rfl), hb⟩
       focus
        obtain ⟨d8, d3, _⟩ := hd
        obtain ⟨ρ, hρ⟩ : ∃ ρ, a'.eval = ρ := ⟨_, rfl⟩
        have hcst : ∀ v, ρ (.const v) = v := fun v => (congrFun hρ (.const v)).symm
        have v8 : ρ (.tmp 26) = .bool true := (congrFun hρ (.tmp 26)).symm.trans ((HF.out.ev 8 rfl d8).trans (HVA.out 8 _ (by rw [HVV.out]; rfl) d8))
        rw [if_pos (by simp [Region.wanted])]
        unfold Oper.wp
        rw [hρ]
        clear hρ
        go_simp
        exact hK.out _ _ ⟨HVA.out.set (i := 9) (by rw [HVV.out]; rfl), hb⟩
       focus
        obtain ⟨d9, _⟩ := hd
        obtain ⟨ρ, hρ⟩ : ∃ ρ, a'.eval = ρ := ⟨_, rfl⟩
        have hcst : ∀ v, ρ (.const v) = v := fun v => (congrFun hρ (.const v)).symm
        have l6 : ρ (.tmp 6) = .pointer (some ⟨w.heap.size + 1, 0, none⟩) := (congrFun hρ (.tmp 6)).symm.trans (HF.out.lo 6 rfl)
        rw [if_pos (wanted_yes (d := 27) rfl rfl ((HF.out.ev 9 rfl d9).trans (HVA.out 9 _ (by rw [HVV.out]; rfl) d9)))]
        unfold Oper.wp
        rw [hρ]
        clear hρ
        go_simp
        exact hK.out _ _ ⟨HVA.out.set (i := 10) (by rw [HVV.out]; rfl), hb⟩
       focus
        obtain ⟨d10, d9, _⟩ := hd
        obtain ⟨ρ, hρ⟩ : ∃ ρ, a'.eval = ρ := ⟨_, rfl⟩
        have hcst : ∀ v, ρ (.const v) = v := fun v => (congrFun hρ (.const v)).symm
        have v10 : ρ (.tmp 28) = .pointer (some ⟨w.heap.size + 1, 3, none⟩) := (congrFun hρ (.tmp 28)).symm.trans ((HF.out.ev 10 rfl d10).trans (HVA.out 10 _ (by rw [HVV.out]; rfl) d10))
        obtain ⟨k0, k1, k2, k3, k4, k5, k6, k7⟩ := HKQ.out _ hb
        rw [if_pos (wanted_yes (d := 27) rfl rfl ((HF.out.ev 9 rfl d9).trans (HVA.out 9 _ (by rw [HVV.out]; rfl) d9)))]
        unfold Oper.wp
        rw [hρ]
        clear hρ
        go_simp
        exact hK.out _ _ ⟨HVA.out.set (i := 11) (by rw [HVV.out]; rfl), hb⟩
       focus
        obtain ⟨d11, d9, _⟩ := hd
        obtain ⟨ρ, hρ⟩ : ∃ ρ, a'.eval = ρ := ⟨_, rfl⟩
        have hcst : ∀ v, ρ (.const v) = v := fun v => (congrFun hρ (.const v)).symm
        have v11 : ρ (.tmp 29) = .int .i64 (sn : Int) := (congrFun hρ (.tmp 29)).symm.trans ((HF.out.ev 11 rfl d11).trans (HVA.out 11 _ (by rw [HVV.out]; rfl) d11))
        rw [if_pos (wanted_yes (d := 27) rfl rfl ((HF.out.ev 9 rfl d9).trans (HVA.out 9 _ (by rw [HVV.out]; rfl) d9)))]
        unfold Oper.wp
        rw [hρ]
        clear hρ
        go_simp
        exact hK.out _ _ ⟨HVA.out.set (i := 12) (by rw [HVV.out]; rfl), hb⟩
       focus
        obtain ⟨d9, d12, _⟩ := hd
        obtain ⟨ρ, hρ⟩ : ∃ ρ, a'.eval = ρ := ⟨_, rfl⟩
        have hcst : ∀ v, ρ (.const v) = v := fun v => (congrFun hρ (.const v)).symm
        have v9 : ρ (.tmp 27) = .bool true := (congrFun hρ (.tmp 27)).symm.trans ((HF.out.ev 9 rfl d9).trans (HVA.out 9 _ (by rw [HVV.out]; rfl) d9))
        have v12 : ρ (.tmp 30) = .bool true := (congrFun hρ (.tmp 30)).symm.trans ((HF.out.ev 12 rfl d12).trans (HVA.out 12 _ (by rw [HVV.out]; rfl) d12))
        rw [if_pos (by simp [Region.wanted])]
        unfold Oper.wp
        rw [hρ]
        clear hρ
        go_simp
        exact hK.out _ _ ⟨HVA.out.set (i := 13) (by rw [HVV.out]; rfl), hb⟩
       focus
        obtain ⟨d13, d9, _⟩ := hd
        obtain ⟨ρ, hρ⟩ : ∃ ρ, a'.eval = ρ := ⟨_, rfl⟩
        have hcst : ∀ v, ρ (.const v) = v := fun v => (congrFun hρ (.const v)).symm
        have v13 : ρ (.tmp 31) = .bool true := (congrFun hρ (.tmp 31)).symm.trans ((HF.out.ev 13 rfl d13).trans (HVA.out 13 _ (by rw [HVV.out]; rfl) d13))
        rw [if_pos (by simp [Region.wanted])]
        unfold Oper.wp
        rw [hρ]
        clear hρ
        go_simp
        exact hK.out _ _ ⟨HVA.out.set (i := 14) (by rw [HVV.out]; rfl), hb⟩
       focus
        obtain ⟨d14, _⟩ := hd
        obtain ⟨ρ, hρ⟩ : ∃ ρ, a'.eval = ρ := ⟨_, rfl⟩
        have hcst : ∀ v, ρ (.const v) = v := fun v => (congrFun hρ (.const v)).symm
        have l6 : ρ (.tmp 6) = .pointer (some ⟨w.heap.size + 1, 0, none⟩) := (congrFun hρ (.tmp 6)).symm.trans (HF.out.lo 6 rfl)
        rw [if_pos (wanted_yes (d := 32) rfl rfl ((HF.out.ev 14 rfl d14).trans (HVA.out 14 _ (by rw [HVV.out]; rfl) d14)))]
        unfold Oper.wp
        rw [hρ]
        clear hρ
        go_simp
        exact hK.out _ _ ⟨HVA.out.set (i := 15) (by rw [HVV.out]; rfl), hb⟩
       focus
        obtain ⟨d15, d14, _⟩ := hd
        obtain ⟨ρ, hρ⟩ : ∃ ρ, a'.eval = ρ := ⟨_, rfl⟩
        have hcst : ∀ v, ρ (.const v) = v := fun v => (congrFun hρ (.const v)).symm
        have v15 : ρ (.tmp 33) = .pointer (some ⟨w.heap.size + 1, 3, none⟩) := (congrFun hρ (.tmp 33)).symm.trans ((HF.out.ev 15 rfl d15).trans (HVA.out 15 _ (by rw [HVV.out]; rfl) d15))
        obtain ⟨k0, k1, k2, k3, k4, k5, k6, k7⟩ := HKQ.out _ hb
        rw [if_pos (wanted_yes (d := 32) rfl rfl ((HF.out.ev 14 rfl d14).trans (HVA.out 14 _ (by rw [HVV.out]; rfl) d14)))]
        unfold Oper.wp
        rw [hρ]
        clear hρ
        go_simp
        exact hK.out _ _ ⟨HVA.out.set (i := 16) (by rw [HVV.out]; rfl), hb⟩
       focus
        obtain ⟨d14, _⟩ := hd
        obtain ⟨ρ, hρ⟩ : ∃ ρ, a'.eval = ρ := ⟨_, rfl⟩
        have hcst : ∀ v, ρ (.const v) = v := fun v => (congrFun hρ (.const v)).symm
        have l4 : ρ (.tmp 4) = .pointer (some ⟨w.heap.size, 0, none⟩) := (congrFun hρ (.tmp 4)).symm.trans (HF.out.lo 4 rfl)
        rw [if_pos (wanted_yes (d := 32) rfl rfl ((HF.out.ev 14 rfl d14).trans (HVA.out 14 _ (by rw [HVV.out]; rfl) d14)))]
        unfold Oper.wp
        rw [hρ]
        clear hρ
        go_simp
        exact hK.out _ _ ⟨HVA.out.set (i := 17) (by rw [HVV.out]; rfl), hb⟩
       focus
        obtain ⟨d17, d14, _⟩ := hd
        obtain ⟨ρ, hρ⟩ : ∃ ρ, a'.eval = ρ := ⟨_, rfl⟩
        have hcst : ∀ v, ρ (.const v) = v := fun v => (congrFun hρ (.const v)).symm
        have v17 : ρ (.tmp 35) = .pointer (some ⟨w.heap.size, 0, none⟩) := (congrFun hρ (.tmp 35)).symm.trans ((HF.out.ev 17 rfl d17).trans (HVA.out 17 _ (by rw [HVV.out]; rfl) d17))
        obtain ⟨k0, k1, k2, k3, k4, k5, k6, k7⟩ := HKQ.out _ hb
        rw [if_pos (wanted_yes (d := 32) rfl rfl ((HF.out.ev 14 rfl d14).trans (HVA.out 14 _ (by rw [HVV.out]; rfl) d14)))]
        unfold Oper.wp
        rw [hρ]
        clear hρ
        go_simp
        exact hK.out _ _ ⟨HVA.out.set (i := 18) (by rw [HVV.out]; rfl), hb⟩
       focus
        obtain ⟨d16, d18, d14, _⟩ := hd
        obtain ⟨ρ, hρ⟩ : ∃ ρ, a'.eval = ρ := ⟨_, rfl⟩
        have hcst : ∀ v, ρ (.const v) = v := fun v => (congrFun hρ (.const v)).symm
        have v16 : ρ (.tmp 34) = .int .i64 (sn : Int) := (congrFun hρ (.tmp 34)).symm.trans ((HF.out.ev 16 rfl d16).trans (HVA.out 16 _ (by rw [HVV.out]; rfl) d16))
        have v18 : ρ (.tmp 36) = .int .i64 f.senders := (congrFun hρ (.tmp 36)).symm.trans ((HF.out.ev 18 rfl d18).trans (HVA.out 18 _ (by rw [HVV.out]; rfl) d18))
        rw [if_pos (wanted_yes (d := 32) rfl rfl ((HF.out.ev 14 rfl d14).trans (HVA.out 14 _ (by rw [HVV.out]; rfl) d14)))]
        unfold Oper.wp
        rw [hρ]
        clear hρ
        go_simp
        exact hK.out _ _ ⟨HVA.out.set (i := 19) (by rw [HVV.out]; rfl), hb⟩
       focus
        obtain ⟨d14, d19, _⟩ := hd
        obtain ⟨ρ, hρ⟩ : ∃ ρ, a'.eval = ρ := ⟨_, rfl⟩
        have hcst : ∀ v, ρ (.const v) = v := fun v => (congrFun hρ (.const v)).symm
        have v14 : ρ (.tmp 32) = .bool true := (congrFun hρ (.tmp 32)).symm.trans ((HF.out.ev 14 rfl d14).trans (HVA.out 14 _ (by rw [HVV.out]; rfl) d14))
        have v19 : ρ (.tmp 37) = .bool true := (congrFun hρ (.tmp 37)).symm.trans ((HF.out.ev 19 rfl d19).trans (HVA.out 19 _ (by rw [HVV.out]; rfl) d19))
        rw [if_pos (by simp [Region.wanted])]
        unfold Oper.wp
        rw [hρ]
        clear hρ
        go_simp
        exact hK.out _ _ ⟨HVA.out.set (i := 20) (by rw [HVV.out]; rfl), hb⟩
       focus
        obtain ⟨d20, d14, _⟩ := hd
        obtain ⟨ρ, hρ⟩ : ∃ ρ, a'.eval = ρ := ⟨_, rfl⟩
        have hcst : ∀ v, ρ (.const v) = v := fun v => (congrFun hρ (.const v)).symm
        have v20 : ρ (.tmp 38) = .bool true := (congrFun hρ (.tmp 38)).symm.trans ((HF.out.ev 20 rfl d20).trans (HVA.out 20 _ (by rw [HVV.out]; rfl) d20))
        rw [if_pos (by simp [Region.wanted])]
        unfold Oper.wp
        rw [hρ]
        clear hρ
        go_simp
        exact hK.out _ _ ⟨HVA.out.set (i := 21) (by rw [HVV.out]; rfl), hb⟩
       focus
        obtain ⟨d21, _⟩ := hd
        obtain ⟨ρ, hρ⟩ : ∃ ρ, a'.eval = ρ := ⟨_, rfl⟩
        have hcst : ∀ v, ρ (.const v) = v := fun v => (congrFun hρ (.const v)).symm
        have l4 : ρ (.tmp 4) = .pointer (some ⟨w.heap.size, 0, none⟩) := (congrFun hρ (.tmp 4)).symm.trans (HF.out.lo 4 rfl)
        obtain ⟨k0, k1, k2, k3, k4, k5, k6, k7⟩ := HKQ.out _ hb
        rw [if_pos (wanted_yes (d := 39) rfl rfl ((HF.out.ev 21 rfl d21).trans (HVA.out 21 _ (by rw [HVV.out]; rfl) d21)))]
        unfold Oper.wp
        rw [hρ]
        clear hρ
        go_simp
        exact hK.out _ _ ⟨HVA.out.set (i := 22) (by rw [HVV.out]; rfl), hb⟩
       focus
        obtain ⟨d21, _⟩ := hd
        obtain ⟨ρ, hρ⟩ : ∃ ρ, a'.eval = ρ := ⟨_, rfl⟩
        have hcst : ∀ v, ρ (.const v) = v := fun v => (congrFun hρ (.const v)).symm
        have l4 : ρ (.tmp 4) = .pointer (some ⟨w.heap.size, 0, none⟩) := (congrFun hρ (.tmp 4)).symm.trans (HF.out.lo 4 rfl)
        obtain ⟨k0, k1, k2, k3, k4, k5, k6, k7⟩ := HKQ.out _ hb
        rw [if_pos (wanted_yes (d := 39) rfl rfl ((HF.out.ev 21 rfl d21).trans (HVA.out 21 _ (by rw [HVV.out]; rfl) d21)))]
        unfold Oper.wp
        rw [hρ]
        clear hρ
        go_simp
        exact hK.out _ _ ⟨HVA.out.set (i := 23) (by rw [HVV.out]; rfl), hb⟩
       focus
        obtain ⟨d21, _⟩ := hd
        obtain ⟨ρ, hρ⟩ : ∃ ρ, a'.eval = ρ := ⟨_, rfl⟩
        have hcst : ∀ v, ρ (.const v) = v := fun v => (congrFun hρ (.const v)).symm
        have l7 : ρ (.tmp 7) = .pointer (some ⟨w.heap.size + 1 + 1, 0, none⟩) := (congrFun hρ (.tmp 7)).symm.trans (HF.out.lo 7 rfl)
        obtain ⟨k0, k1, k2, k3, k4, k5, k6, k7⟩ := HKQ.out _ hb
        rw [if_pos (wanted_yes (d := 39) rfl rfl ((HF.out.ev 21 rfl d21).trans (HVA.out 21 _ (by rw [HVV.out]; rfl) d21)))]
        unfold Oper.wp
        rw [hρ]
        clear hρ
        go_simp
        exact hK.out _ _ ⟨HVA.out.set (i := 24) (by rw [HVV.out]; rfl), hb⟩
       focus
        obtain ⟨d21, _⟩ := hd
        obtain ⟨ρ, hρ⟩ : ∃ ρ, a'.eval = ρ := ⟨_, rfl⟩
        have hcst : ∀ v, ρ (.const v) = v := fun v => (congrFun hρ (.const v)).symm
        have l6 : ρ (.tmp 6) = .pointer (some ⟨w.heap.size + 1, 0, none⟩) := (congrFun hρ (.tmp 6)).symm.trans (HF.out.lo 6 rfl)
        rw [if_pos (wanted_yes (d := 39) rfl rfl ((HF.out.ev 21 rfl d21).trans (HVA.out 21 _ (by rw [HVV.out]; rfl) d21)))]
        unfold Oper.wp
        rw [hρ]
        clear hρ
        go_simp
        exact hK.out _ _ ⟨HVA.out.set (i := 25) (by rw [HVV.out]; rfl), hb⟩
       focus
        obtain ⟨d25, d21, _⟩ := hd
        obtain ⟨ρ, hρ⟩ : ∃ ρ, a'.eval = ρ := ⟨_, rfl⟩
        have hcst : ∀ v, ρ (.const v) = v := fun v => (congrFun hρ (.const v)).symm
        have v25 : ρ (.tmp 43) = .pointer (some ⟨w.heap.size + 1, 3, none⟩) := (congrFun hρ (.tmp 43)).symm.trans ((HF.out.ev 25 rfl d25).trans (HVA.out 25 _ (by rw [HVV.out]; rfl) d25))
        obtain ⟨k0, k1, k2, k3, k4, k5, k6, k7⟩ := HKQ.out _ hb
        rw [if_pos (wanted_yes (d := 39) rfl rfl ((HF.out.ev 21 rfl d21).trans (HVA.out 21 _ (by rw [HVV.out]; rfl) d21)))]
        unfold Oper.wp
        rw [hρ]
        clear hρ
        go_simp
        exact hK.out _ _ ⟨HVA.out.set (i := 26) (by rw [HVV.out]; rfl), hb⟩
       focus
        obtain ⟨d23, d24, d26, d21, _, _⟩ := hd
        obtain ⟨ρ, hρ⟩ : ∃ ρ, a'.eval = ρ := ⟨_, rfl⟩
        have hcst : ∀ v, ρ (.const v) = v := fun v => (congrFun hρ (.const v)).symm
        have hfun : ∀ k, ρ (.func k) = .func (.func k) #[] #[] := fun k => (congrFun hρ (.func k)).symm
        have v23 : ρ (.tmp 41) = .agg #[.int .i64 f.senders, .slice a f.lots.length cap] := (congrFun hρ (.tmp 41)).symm.trans ((HF.out.ev 23 rfl d23).trans (HVA.out 23 _ (by rw [HVV.out]; rfl) d23))
        have v24 : ρ (.tmp 42) = .agg #[.slice a1 n1 c1, .slice a2 n2 c2] := (congrFun hρ (.tmp 42)).symm.trans ((HF.out.ev 24 rfl d24).trans (HVA.out 24 _ (by rw [HVV.out]; rfl) d24))
        have v26 : ρ (.tmp 44) = .int .i64 (sn : Int) := (congrFun hρ (.tmp 44)).symm.trans ((HF.out.ev 26 rfl d26).trans (HVA.out 26 _ (by rw [HVV.out]; rfl) d26))
        rw [if_pos (wanted_yes (d := 39) rfl rfl ((HF.out.ev 21 rfl d21).trans (HVA.out 21 _ (by rw [HVV.out]; rfl) d21)))]
        unfold Oper.wp
        rw [hρ]
        clear hρ
        go_simp
        go_at_call 71
        refine (HPL.out _ hb).mono ?_
        rintro en w5' ⟨rfl, hb5⟩
        exact hK.out _ _ ⟨HVA.out.set (i := 27) (by rw [HVV.out]; rfl), hb.trans (hb5.mono hb.size)⟩
       focus
        obtain ⟨d21, _⟩ := hd
        obtain ⟨ρ, hρ⟩ : ∃ ρ, a'.eval = ρ := ⟨_, rfl⟩
        have hcst : ∀ v, ρ (.const v) = v := fun v => (congrFun hρ (.const v)).symm
        have l1 : ρ (.tmp 1) = .slice (some ⟨bz, oz, none⟩) zs.length cz := (congrFun hρ (.tmp 1)).symm.trans (HF.out.lo 1 rfl)
        rw [if_pos (wanted_yes (d := 39) rfl rfl ((HF.out.ev 21 rfl d21).trans (HVA.out 21 _ (by rw [HVV.out]; rfl) d21)))]
        unfold Oper.wp
        rw [hρ]
        clear hρ
        go_simp
        exact hK.out _ _ ⟨HVA.out.set (i := 28) (by rw [HVV.out]; rfl), hb⟩
       focus
        obtain ⟨d21, _⟩ := hd
        obtain ⟨ρ, hρ⟩ : ∃ ρ, a'.eval = ρ := ⟨_, rfl⟩
        have hcst : ∀ v, ρ (.const v) = v := fun v => (congrFun hρ (.const v)).symm
        have l6 : ρ (.tmp 6) = .pointer (some ⟨w.heap.size + 1, 0, none⟩) := (congrFun hρ (.tmp 6)).symm.trans (HF.out.lo 6 rfl)
        rw [if_pos (wanted_yes (d := 39) rfl rfl ((HF.out.ev 21 rfl d21).trans (HVA.out 21 _ (by rw [HVV.out]; rfl) d21)))]
        unfold Oper.wp
        rw [hρ]
        clear hρ
        go_simp
        exact hK.out _ _ ⟨HVA.out.set (i := 29) (by rw [HVV.out]; rfl), hb⟩
       focus
        obtain ⟨d29, d21, _⟩ := hd
        obtain ⟨ρ, hρ⟩ : ∃ ρ, a'.eval = ρ := ⟨_, rfl⟩
        have hcst : ∀ v, ρ (.const v) = v := fun v => (congrFun hρ (.const v)).symm
        have v29 : ρ (.tmp 47) = .pointer (some ⟨w.heap.size + 1, 3, none⟩) := (congrFun hρ (.tmp 47)).symm.trans ((HF.out.ev 29 rfl d29).trans (HVA.out 29 _ (by rw [HVV.out]; rfl) d29))
        obtain ⟨k0, k1, k2, k3, k4, k5, k6, k7⟩ := HKQ.out _ hb
        rw [if_pos (wanted_yes (d := 39) rfl rfl ((HF.out.ev 21 rfl d21).trans (HVA.out 21 _ (by rw [HVV.out]; rfl) d21)))]
        unfold Oper.wp
        rw [hρ]
        clear hρ
        go_simp
        exact hK.out _ _ ⟨HVA.out.set (i := 30) (by rw [HVV.out]; rfl), hb⟩
       focus
        obtain ⟨d28, d30, d21, _⟩ := hd
        obtain ⟨ρ, hρ⟩ : ∃ ρ, a'.eval = ρ := ⟨_, rfl⟩
        have hcst : ∀ v, ρ (.const v) = v := fun v => (congrFun hρ (.const v)).symm
        have v28 : ρ (.tmp 46) = .slice (some ⟨bz, oz, none⟩) zs.length cz := (congrFun hρ (.tmp 46)).symm.trans ((HF.out.ev 28 rfl d28).trans (HVA.out 28 _ (by rw [HVV.out]; rfl) d28))
        have v30 : ρ (.tmp 48) = .int .i64 (sn : Int) := (congrFun hρ (.tmp 48)).symm.trans ((HF.out.ev 30 rfl d30).trans (HVA.out 30 _ (by rw [HVV.out]; rfl) d30))
        rw [if_pos (wanted_yes (d := 39) rfl rfl ((HF.out.ev 21 rfl d21).trans (HVA.out 21 _ (by rw [HVV.out]; rfl) d21)))]
        unfold Oper.wp
        rw [hρ]
        clear hρ
        go_simp
        exact hK.out _ _ ⟨HVA.out.set (i := 31) (by rw [HVV.out]; rfl), hb⟩
       focus
        obtain ⟨d31, d21, _⟩ := hd
        obtain ⟨ρ, hρ⟩ : ∃ ρ, a'.eval = ρ := ⟨_, rfl⟩
        have hcst : ∀ v, ρ (.const v) = v := fun v => (congrFun hρ (.const v)).symm
        have v31 : ρ (.tmp 49) = .pointer (some ⟨bz, oz + sn, none⟩) := (congrFun hρ (.tmp 49)).symm.trans ((HF.out.ev 31 rfl d31).trans (HVA.out 31 _ (by rw [HVV.out]; rfl) d31))
        obtain ⟨k0, k1, k2, k3, k4, k5, k6, k7⟩ := HKQ.out _ hb
        rw [if_pos (wanted_yes (d := 39) rfl rfl ((HF.out.ev 21 rfl d21).trans (HVA.out 21 _ (by rw [HVV.out]; rfl) d21)))]
        unfold Oper.wp
        rw [hρ]
        clear hρ
        go_simp
        exact hK.out _ _ ⟨HVA.out.set (i := 32) (by rw [HVV.out]; rfl), hb⟩
       focus
        obtain ⟨d22, d27, d32, _, d21, _⟩ := hd
        obtain ⟨ρ, hρ⟩ : ∃ ρ, a'.eval = ρ := ⟨_, rfl⟩
        have hcst : ∀ v, ρ (.const v) = v := fun v => (congrFun hρ (.const v)).symm
        have hfun : ∀ k, ρ (.func k) = .func (.func k) #[] #[] := fun k => (congrFun hρ (.func k)).symm
        have v22 : ρ (.tmp 40) = .agg #[.int .i64 f.senders, .slice a f.lots.length cap] := (congrFun hρ (.tmp 40)).symm.trans ((HF.out.ev 22 rfl d22).trans (HVA.out 22 _ (by rw [HVV.out]; rfl) d22))
        have v27 : ρ (.tmp 45) = .int .i64 pv := (congrFun hρ (.tmp 45)).symm.trans ((HF.out.ev 27 rfl d27).trans (HVA.out 27 _ (by rw [HVV.out]; rfl) d27))
        have v32 : ρ (.tmp 50) = .int .i64 zv := (congrFun hρ (.tmp 50)).symm.trans ((HF.out.ev 32 rfl d32).trans (HVA.out 32 _ (by rw [HVV.out]; rfl) d32))
        rw [if_pos (wanted_yes (d := 39) rfl rfl ((HF.out.ev 21 rfl d21).trans (HVA.out 21 _ (by rw [HVV.out]; rfl) d21)))]
        unfold Oper.wp
        rw [hρ]
        clear hρ
        go_simp
        go_at_call 70
        refine (HREI.out _ hb).mono ?_
        rintro en w5' ⟨rfl, hb5⟩
        exact hK.out _ _ ⟨HVA.out.set (i := 33) (by rw [HVV.out]; rfl), hb.trans (hb5.mono hb.size)⟩
       focus
        obtain ⟨d33, d21, _⟩ := hd
        obtain ⟨ρ, hρ⟩ : ∃ ρ, a'.eval = ρ := ⟨_, rfl⟩
        have hcst : ∀ v, ρ (.const v) = v := fun v => (congrFun hρ (.const v)).symm
        have v33 : ρ (.tmp 51) = .bool RB := (congrFun hρ (.tmp 51)).symm.trans ((HF.out.ev 33 rfl d33).trans (HVA.out 33 _ (by rw [HVV.out]; rfl) d33))
        rw [if_pos (wanted_yes (d := 39) rfl rfl ((HF.out.ev 21 rfl d21).trans (HVA.out 21 _ (by rw [HVV.out]; rfl) d21)))]
        unfold Oper.wp
        rw [hρ]
        clear hρ
        go_simp
        exact hK.out _ _ ⟨HVA.out.set (i := 34) (by rw [HVV.out]; rfl), hb⟩
       focus
        obtain ⟨d21, d34, _⟩ := hd
        obtain ⟨ρ, hρ⟩ : ∃ ρ, a'.eval = ρ := ⟨_, rfl⟩
        have hcst : ∀ v, ρ (.const v) = v := fun v => (congrFun hρ (.const v)).symm
        have v21 : ρ (.tmp 39) = .bool true := (congrFun hρ (.tmp 39)).symm.trans ((HF.out.ev 21 rfl d21).trans (HVA.out 21 _ (by rw [HVV.out]; rfl) d21))
        have v34 : ρ (.tmp 52) = .bool (!RB) := (congrFun hρ (.tmp 52)).symm.trans ((HF.out.ev 34 rfl d34).trans (HVA.out 34 _ (by rw [HVV.out]; rfl) d34))
        rw [if_pos (by simp [Region.wanted])]
        unfold Oper.wp
        rw [hρ]
        clear hρ
        go_simp
        exact hK.out _ _ ⟨HVA.out.set (i := 35) (by rw [HVV.out]; rfl), hb⟩
       focus
        obtain ⟨d35, d33, d0, d1, d2, d3, d4, d5, d6, d7, d8, d9, d10, d11, d12, d13, d14, d15, d16, d17, d18, d19, d20, d21, d22, d23, d24, d25, d26, d27, d28, d29, d30, d31, d32, _, d34, _, _⟩ := hd
        obtain ⟨ρ, hρ⟩ : ∃ ρ, a'.eval = ρ := ⟨_, rfl⟩
        have hcst : ∀ v, ρ (.const v) = v := fun v => (congrFun hρ (.const v)).symm
        have v35 : ρ (.tmp 53) = .bool (!RB) := (congrFun hρ (.tmp 53)).symm.trans ((HF.out.ev 35 rfl d35).trans (HVA.out 35 _ (by rw [HVV.out]; rfl) d35))
        rw [if_pos (by simp [Region.wanted])]
        unfold Oper.wp
        rw [hρ]
        clear hρ
        go_simp
        exact hK.out _ _ ⟨HVA.out.set (i := 36) (by rw [HVV.out]; rfl), hb⟩
      focus
       intro L w' xs hL hJ
       obtain ⟨hv, hb⟩ := hJ
       have e0 : xs 0 = .pointer (some ⟨w.heap.size + 1, 1, none⟩) := hv 0 _ (by rw [HVV.out]; rfl) (hL 0 (by decide))
       have e1 : xs 1 = .int .i64 0 := hv 1 _ (by rw [HVV.out]; rfl) (hL 1 (by decide))
       have e2 : xs 2 = .bool true := hv 2 _ (by rw [HVV.out]; rfl) (hL 2 (by decide))
       have e3 : xs 3 = .bool true := hv 3 _ (by rw [HVV.out]; rfl) (hL 3 (by decide))
       have e4 : xs 4 = .pointer (some ⟨w.heap.size + 1, 2, none⟩) := hv 4 _ (by rw [HVV.out]; rfl) (hL 4 (by decide))
       have e5 : xs 5 = .slice ak 0 ck := hv 5 _ (by rw [HVV.out]; rfl) (hL 5 (by decide))
       have e6 : xs 6 = .int .i64 0 := hv 6 _ (by rw [HVV.out]; rfl) (hL 6 (by decide))
       have e7 : xs 7 = .bool true := hv 7 _ (by rw [HVV.out]; rfl) (hL 7 (by decide))
       have e8 : xs 8 = .bool true := hv 8 _ (by rw [HVV.out]; rfl) (hL 8 (by decide))
       have e9 : xs 9 = .bool true := hv 9 _ (by rw [HVV.out]; rfl) (hL 9 (by decide))
       have e10 : xs 10 = .pointer (some ⟨w.heap.size + 1, 3, none⟩) := hv 10 _ (by rw [HVV.out]; rfl) (hL 10 (by decide))
       have e11 : xs 11 = .int .i64 (sn : Int) := hv 11 _ (by rw [HVV.out]; rfl) (hL 11 (by decide))
       have e12 : xs 12 = .bool true := hv 12 _ (by rw [HVV.out]; rfl) (hL 12 (by decide))
       have e13 : xs 13 = .bool true := hv 13 _ (by rw [HVV.out]; rfl) (hL 13 (by decide))
       have e14 : xs 14 = .bool true := hv 14 _ (by rw [HVV.out]; rfl) (hL 14 (by decide))
       have e15 : xs 15 = .pointer (some ⟨w.heap.size + 1, 3, none⟩) := hv 15 _ (by rw [HVV.out]; rfl) (hL 15 (by decide))
       have e16 : xs 16 = .int .i64 (sn : Int) := hv 16 _ (by rw [HVV.out]; rfl) (hL 16 (by decide))
       have e17 : xs 17 = .pointer (some ⟨w.heap.size, 0, none⟩) := hv 17 _ (by rw [HVV.out]; rfl) (hL 17 (by decide))
       have e18 : xs 18 = .int .i64 f.senders := hv 18 _ (by rw [HVV.out]; rfl) (hL 18 (by decide))
       have e19 : xs 19 = .bool true := hv 19 _ (by rw [HVV.out]; rfl) (hL 19 (by decide))
       have e20 : xs 20 = .bool true := hv 20 _ (by rw [HVV.out]; rfl) (hL 20 (by decide))
       have e21 : xs 21 = .bool true := hv 21 _ (by rw [HVV.out]; rfl) (hL 21 (by decide))
       have e22 : xs 22 = .agg #[.int .i64 f.senders, .slice a f.lots.length cap] := hv 22 _ (by rw [HVV.out]; rfl) (hL 22 (by decide))
       have e23 : xs 23 = .agg #[.int .i64 f.senders, .slice a f.lots.length cap] := hv 23 _ (by rw [HVV.out]; rfl) (hL 23 (by decide))
       have e24 : xs 24 = .agg #[.slice a1 n1 c1, .slice a2 n2 c2] := hv 24 _ (by rw [HVV.out]; rfl) (hL 24 (by decide))
       have e25 : xs 25 = .pointer (some ⟨w.heap.size + 1, 3, none⟩) := hv 25 _ (by rw [HVV.out]; rfl) (hL 25 (by decide))
       have e26 : xs 26 = .int .i64 (sn : Int) := hv 26 _ (by rw [HVV.out]; rfl) (hL 26 (by decide))
       have e27 : xs 27 = .int .i64 pv := hv 27 _ (by rw [HVV.out]; rfl) (hL 27 (by decide))
       have e28 : xs 28 = .slice (some ⟨bz, oz, none⟩) zs.length cz := hv 28 _ (by rw [HVV.out]; rfl) (hL 28 (by decide))
       have e29 : xs 29 = .pointer (some ⟨w.heap.size + 1, 3, none⟩) := hv 29 _ (by rw [HVV.out]; rfl) (hL 29 (by decide))
       have e30 : xs 30 = .int .i64 (sn : Int) := hv 30 _ (by rw [HVV.out]; rfl) (hL 30 (by decide))
       have e31 : xs 31 = .pointer (some ⟨bz, oz + sn, none⟩) := hv 31 _ (by rw [HVV.out]; rfl) (hL 31 (by decide))
       have e32 : xs 32 = .int .i64 zv := hv 32 _ (by rw [HVV.out]; rfl) (hL 32 (by decide))
       have e33 : xs 33 = .bool RB := hv 33 _ (by rw [HVV.out]; rfl) (hL 33 (by decide))
       have e34 : xs 34 = .bool (!RB) := hv 34 _ (by rw [HVV.out]; rfl) (hL 34 (by decide))
       have e35 : xs 35 = .bool (!RB) := hv 35 _ (by rw [HVV.out]; rfl) (hL 35 (by decide))
       have e36 : xs 36 = .bool (!RB) := hv 36 _ (by rw [HVV.out]; rfl) (hL 36 (by decide))
       simp only [putGo, Act.put, List.setIfInBounds_toArray, List.set_cons_zero, List.set_cons_succ, e0, e1, e2, e3, e4, e5, e6, e7, e8, e9, e10, e11, e12, e13, e14, e15, e16, e17, e18, e19, e20, e21, e22, e23, e24, e25, e26, e27, e28, e29, e30, e31, e32, e33, e34, e35, e36]
       clear hv e0 e1 e2 e3 e4 e5 e6 e7 e8 e9 e10 e11 e12 e13 e14 e15 e16 e17 e18 e19 e20 e21 e22 e23 e24 e25 e26 e27 e28 e29 e30 e31 e32 e33 e34 e35 e36
       obtain ⟨WC, rfl⟩ : ∃ W', W' = w' := ⟨_, rfl⟩
       have HBC := Lib.hid (HW3.out.trans (hb.mono HW3.out.size))
       clear hb hL
       go_wp2
       go_ret
       exact ⟨by rw [HBI.out]; rfl, HBC.out⟩
     ·have HRF : Hid (R = false) := Lib.hid (by rw [HRV2.out, decide_eq_false hss]; simp)
      have hss1 : decide (s < f.senders) = false := decide_eq_false hss
      clear HRV2
      go_wp2
      go_quiet (fail)
      go_wp2
      go_ret
      exact ⟨by rw [HRF.out]; rfl, HDB.out _⟩
    ·have HRF : Hid (R = false) := Lib.hid (by rw [HRV2.out, decide_eq_false hs0]; simp)
     have hs01 : decide (0 ≤ s) = false := decide_eq_false hs0
     clear HRV2
     go_wp2
     go_quiet (fail)
     go_wp2
     go_ret
     exact ⟨by rw [HRF.out]; rfl, HDB.out _⟩
   ·have HRF : Hid (R = false) := Lib.hid (by rw [HRV2.out, decide_eq_false hk0]; simp)
    have hk1 : ((nk : Int) == 0) = false := beq_eq_false_iff_ne.2 (by omega)
    clear HRV2
    go_wp2
    go_quiet (fail)
    go_wp2
    go_ret
    exact ⟨by rw [HRF.out]; rfl, HDB.out _⟩
  ·have HRF : Hid (R = false) := Lib.hid (by rw [HRV2.out, decide_eq_false hi0]; simp)
   have hi1 : (i == 0) = false := beq_eq_false_iff_ne.2 hi0
   clear HRV2
   go_wp2
   go_quiet (fail)
   go_wp2
   go_ret
   exact ⟨by rw [HRF.out]; rfl, HDB.out _⟩
 ·have hl2 : (l == -1) = false := beq_eq_false_iff_ne.2 hl1
  have HRV2 : Hid (R = (decide (n1 < f.lots.length) && (decide (l = (n1 : Nat)) && (decide (i = (n2 : Nat)) && (decide (s = 0) && (decide ((nk : Int) = (lotAt f.lots n1).ins.length - n2) && RK)))))) := Lib.hid (by rw [HRV.out, if_neg hl1])
  clear HRV
  have HLE : Hid (n1 ≤ f.lots.length) := Lib.hid (by have := HSO.out.len; have := HN1.out; omega)
  by_cases hend : n1 = f.lots.length
  ·have HRF : Hid (R = false) := Lib.hid (by rw [HRV2.out, decide_eq_false (by omega)]; rfl)
   have he1 : ((n1 : Int) == (f.lots.length : Int)) = true := beq_iff_eq.2 (by omega)
   clear HRV2 hend
   go_wp2
   go_quiet (fail)
   go_wp2
   go_ret
   exact ⟨by rw [HRF.out]; rfl, HDB.out _⟩
  ·have hlt : n1 < f.lots.length := by have := HLE.out; omega
   have he1 : ((n1 : Int) == (f.lots.length : Int)) = false := beq_eq_false_iff_ne.2 (by omega)
   have HRV3 : Hid (R = (decide (l = (n1 : Nat)) && (decide (i = (n2 : Nat)) && (decide (s = 0) && (decide ((nk : Int) = (lotAt f.lots n1).ins.length - n2) && RK))))) := Lib.hid (by rw [HRV2.out, decide_eq_true hlt, Bool.true_and])
   clear HRV2 hend
   obtain rfl : a = some ⟨b, off, none⟩ := by rcases HA.out with h | h; exact h; omega
   obtain ⟨vi, vk, vp, q1, _, _, hli, _, _⟩ := HC.out _ hlt
   obtain ⟨ai, ci, rfl⟩ := hli.form
   have HQ1 := Lib.hid q1
   have hins := ins_small HCK.out hlt
   have hfit := HSO.out.fit
   rw [HN1.out, HN2.out] at hfit
   have HFK : Hid (freeK S2 (lotAt f.lots n1).ins.length + n2 = (lotAt f.lots n1).ins.length) := Lib.hid (by
    have h := free_len HSO.out.nodup HSO.out.low
    rw [HN1.out, HN2.out] at h
    exact h)
   have HRK2 := Lib.hid (HRK.out hlt)
   have HIH2 := Lib.hid (HIH.out hlt)
   obtain ⟨N, hN⟩ : ∃ N, (lotAt f.lots n1).ins.length = N := ⟨_, rfl⟩
   rw [hN] at hins hfit HRV3 HRK2 HIH2 HQ1 HFK
   have c3 := (HQ1.out.below HW3.out hB).2
   clear q1 hli HIH HRK hN
   by_cases hll : l = (n1 : Int)
   ·subst hll
    have HRV4 : Hid (R = (decide (i = (n2 : Nat)) && (decide (s = 0) && (decide ((nk : Int) = N - n2) && RK)))) := Lib.hid (by rw [HRV3.out, decide_eq_true rfl, Bool.true_and])
    clear HRV3
    by_cases hii : i = (n2 : Int)
    ·subst hii
     have HRV5 : Hid (R = (decide (s = 0) && (decide ((nk : Int) = N - n2) && RK))) := Lib.hid (by rw [HRV4.out, decide_eq_true rfl, Bool.true_and])
     clear HRV4
     by_cases hss : s = 0
     ·subst hss
      have HRV6 : Hid (R = (decide ((nk : Int) = N - n2) && RK)) := Lib.hid (by rw [HRV5.out, decide_eq_true rfl, Bool.true_and])
      clear HRV5
      have hsub : IntKind.i64.wrap ((N : Int) - (n2 : Int)) = (N : Int) - n2 := IntWalk.i64_in _ (by omega)
      by_cases hnn : (nk : Int) = N - n2
      ·have HRV7 : Hid (R = rkTo g S2 p.kids N) := Lib.hid (by rw [HRV6.out, decide_eq_true hnn, Bool.true_and, HRK2.out])
       have hnn1 : ((nk : Int) != (N : Int) - n2) = false := by rw [hnn]; simp
       have HNK : Hid (nk = freeK S2 N) := Lib.hid (by have := HFK.out; omega)
       clear HRV6 HRK2
       go_wp2
       go_quiet (fail)
       clear hnn hnn1
       obtain ⟨m5, hm5⟩ : ∃ n, n = W3.heap.size := ⟨_, rfl⟩
       go_upto_region 8 with fail
       refine wp_name (fun W5 hW5 => ?_)
       have HB5 : Hid (Below W3.heap.size W3 W5) := Lib.hid (by rw [hW5]; exact below_drewN (Below.refl _ _) _)
       have HX5 := Lib.hid (HX3.out.ext HB5.out)
       have HD5 := Lib.hid (HD3.out.ext HB5.out)
       have HS5 := Lib.hid (HS3.out.ext HB5.out)
       have HM5 := Lib.hid ((HM3.out.below HB5.out).mat)
       have HP5 := Lib.hid ((HP3.out.belowX HB5.out).ints)
       have HW5 : Hid (Below w.heap.size w W5) := Lib.hid (HW3.out.trans (HB5.out.mono HW3.out.size))
       clear hW5 r3 d3 m3 c3 hm5
       go_wp2
       go_loopw [10, 11] (fun j' i' wr => ∃ i : Nat, i ≤ N ∧ i' = .int .i64 i ∧ j' = .int .i64 (freeK S2 i : Nat) ∧ rkTo g S2 p.kids i = true ∧ Below W5.heap.size W5 wr) (fun _ i' _ => N - (intOf i').toNat)
       case atStart => exact ⟨0, by omega, rfl, rfl, rfl, Below.refl _ _⟩
       case round =>
        obtain ⟨i, hi, rfl, rfl, hrk, hb1⟩ := hrel
        have HRR := Lib.hid hrk
        have HB1 := Lib.hid hb1
        have HBR : Hid (Below w.heap.size w wr) := Lib.hid (HW5.out.trans (hb1.mono HW5.out.size))
        have HXR := Lib.hid (HX5.out.ext hb1)
        have HDR := Lib.hid (HD5.out.ext hb1)
        have HSR := Lib.hid (HS5.out.ext hb1)
        have HMR : Hid (IsMat wr.heap.size wr (.slice a1 n1 c1) S1) := Lib.hid ((HM5.out.below hb1 (Nat.le_refl _)).mono hb1.size)
        have HPR : Hid (IsInts wr.heap.size wr (.slice a2 n2 c2) S2) := Lib.hid ((HP5.out.below hb1 (Nat.le_refl _)).mono hb1.size)
        have r4 := HXR.out.2
        have d4 := HDR.out.2
        have m4 := HSR.out.2
        have c4 := (HQ1.out.below HBR.out hB).2
        clear hrk hb1
        by_cases hlti : i < N
        ·obtain ⟨HS, hHS⟩ : ∃ h, hasB S2 (i : Int) = h := ⟨_, rfl⟩
         go_wp2_with fail
         refine (has_any wr.heap.size _ _ S2 i HPR.out).mono ?_
         rintro e wq ⟨rfl, rfl⟩
         rw [hHS]
         have HHS := Lib.hid hHS
         clear hHS
         cases HS
         ·have HFM := Lib.hid (freeK_more HHS.out)
          have hjk : freeK S2 i < nk := by
           have h1 := freeK_mono S2 (show i + 1 ≤ N by omega)
           have h2 := HFM.out
           have h3 := HNK.out
           omega
          obtain ⟨j, hj⟩ : ∃ j, freeK S2 i = j := ⟨_, rfl⟩
          rw [hj] at hjk HFM ⊢
          have HJ := Lib.hid hj
          have hj5 : j < 60000 := by have h7 := HNK.out; have h8 := HFK.out; omega
          clear hj
          obtain rfl : ak = some ⟨bk, ok, none⟩ := by rcases HAK.out with h | h; exact h; omega
          obtain ⟨hbk, cs, hcs, hds⟩ := HKK.out j hjk
          have HDS := Lib.hid hds
          have hbk2 : bk < B := hbk
          have hdf := hds.form
          obtain ⟨kx, hkx⟩ : ∃ kx, denAt p.kids j = kx := ⟨_, rfl⟩
          obtain ⟨ak2, ck2, hce, _⟩ := hdf
          obtain ⟨y0, y1, y3, nq, hy0⟩ : ∃ y0 y1 y3 nq, cs = [.int .i64 y0, .int .i64 y1, .slice ak2 nq ck2, .int .i64 y3] := ⟨_, _, _, _, hce⟩
          subst hy0
          have HKC : Hid (∀ W', Below w.heap.size w W' → W'.cell? ⟨bk, ok + j * 4, none⟩ = some (.int .i64 y0) ∧ W'.cell? ⟨bk, ok + j * 4 + 1, none⟩ = some (.int .i64 y1) ∧ W'.cell? ⟨bk, ok + j * 4 + 2, none⟩ = some (.slice ak2 nq ck2) ∧ W'.cell? ⟨bk, ok + j * 4 + 3, none⟩ = some (.int .i64 y3)) := Lib.hid fun W' hW' =>
           ⟨(hW'.cell (p := ⟨bk, ok + j * 4, none⟩) (by show bk < _; omega)).trans (hcs 0 _ rfl), (hW'.cell (p := ⟨bk, ok + j * 4 + 1, none⟩) (by show bk < _; omega)).trans (hcs 1 _ rfl), (hW'.cell (p := ⟨bk, ok + j * 4 + 2, none⟩) (by show bk < _; omega)).trans (hcs 2 _ rfl), (hW'.cell (p := ⟨bk, ok + j * 4 + 3, none⟩) (by show bk < _; omega)).trans (hcs 3 _ rfl)⟩
          have HIW : Hid (∀ W', Below wq.heap.size wq W' → W'.cell? ⟨w.heap.size, 0, none⟩ = some (.int .i64 f.senders) ∧ W'.cell? ⟨w.heap.size, 1, none⟩ = some (.slice (some ⟨b, off, none⟩) f.lots.length cap) ∧ W'.cell? ⟨w.heap.size + 1 + 1, 0, none⟩ = some (.slice a1 n1 c1) ∧ W'.cell? ⟨w.heap.size + 1 + 1, 1, none⟩ = some (.slice a2 n2 c2) ∧ W'.cell? ⟨w.heap.size + 1, 2, none⟩ = some (.slice (some ⟨bk, ok, none⟩) nk ck)) := Lib.hid fun W' hW' =>
           ⟨(HXR.out.ext hW').2 0, (HXR.out.ext hW').2 1, (HSR.out.ext hW').2 0, (HSR.out.ext hW').2 1, (HDR.out.ext hW').2 2⟩
          have HDE : Hid (∀ W', Below wq.heap.size wq W' → Calls Try.prog 69 #[.agg #[.slice a1 n1 c1, .slice a2 n2 c2], .int .i64 (i : Int)] W' fun e w' => ∃ vP', e = .returned (.agg #[.slice a1 n1 c1, vP']) ∧ IsInts w'.heap.size w' vP' (S2 ++ [(i : Int)]) ∧ Below W'.heap.size W' w') := Lib.hid fun W' hW' =>
           decided29_any wq.heap.size W' a1 n1 c1 _ S2 (i : Int) (HPR.out.below hW' (Nat.le_refl _)) hW'.size (by unfold I64; omega) (by have := HN2.out; omega)
          have HDN2 : Hid (∀ W' vP', Below wq.heap.size wq W' → IsInts W'.heap.size W' vP' (S2 ++ [(i : Int)]) → Calls Try.prog 47 #[.agg #[.int .i64 f.senders, .slice (some ⟨b, off, none⟩) f.lots.length cap], .slice az zs.length cz, .agg #[.int .i64 y0, .int .i64 y1, .slice ak2 nq ck2, .int .i64 y3], .agg #[.slice a1 n1 c1, vP']] W' fun e w' => e = .returned (.bool (g (i : Int) (denAt p.kids j))) ∧ Below W'.heap.size W' w') := Lib.hid fun W' vP' hW' hi' => by
           have hWW := HBR.out.trans (hW'.mono HBR.out.size)
           exact HIH2.out i j W' _ vP' [.int .i64 y0, .int .i64 y1, .slice ak2 nq ck2, .int .i64 y3] hlti HHS.out hjk hWW (IsDen.below HDS.out hWW hB) ((HMR.out.below hW' (Nat.le_refl _)).mono hW'.size) hi'
          have HL7 : Hid (Lasts (fun W' x => ∃ vP', x = .agg #[.slice a1 n1 c1, vP'] ∧ IsInts W'.heap.size W' vP' (S2 ++ [(i : Int)]))) := Lib.hid (fun w1 w2 v h hb => by obtain ⟨vP', e, h⟩ := h; exact ⟨vP', e, (h.below hb (Nat.le_refl _)).mono hb.size⟩)
          obtain ⟨RB, hRB⟩ : ∃ G, g (i : Int) (denAt p.kids j) = G := ⟨_, rfl⟩
          rw [hRB] at HDN2
          have HRB := Lib.hid hRB
          rw [← HJ.out] at HRB
          clear hRB r4 d4 m4 c4 hce hcs hds hkx
          go_upto_region 12 with fail
          obtain ⟨V, hV⟩ : ∃ V : List (Option Value), V = [some (.agg #[.int .i64 f.senders, .slice (some ⟨b, off, none⟩) f.lots.length cap]), some (.slice az zs.length cz), some (.pointer (some ⟨w.heap.size + 1, 2, none⟩)), some (.slice (some ⟨bk, ok, none⟩) nk ck), some (.int .i64 (j : Int)), some (.pointer (some ⟨bk, ok + j * 4, none⟩)), some (.agg #[.int .i64 y0, .int .i64 y1, .slice ak2 nq ck2, .int .i64 y3]), some (.agg #[.slice a1 n1 c1, .slice a2 n2 c2]), some (.int .i64 (i : Int)), none, some (.bool RB), some (.bool (!RB))] := ⟨_, rfl⟩
          have HVV := Lib.hid hV
          clear hV
          refine wp_region_V [some 113, some 114, some 115, some 116, some 117, some 118, some 119, some 120, some 121, some 122, some 123, some 124] (fun L w' xs => ValsAt V L xs ∧ (Below wq.heap.size wq w' ∧ (L 9 = true → ∃ vP', xs 9 = .agg #[.slice a1 n1 c1, vP'] ∧ IsInts w'.heap.size w' vP' (S2 ++ [(i : Int)])))) (by kernel_rfl) (by kernel_rfl) (by rfl) (by rfl) (by rfl) ?_ ?_ ?_
          focus
           exact fun xs => ⟨ValsAt.none _ _, (Below.refl _ _).drew, (fun e => by cases e)⟩
          focus
           refine ⟨?_, ?_, ?_, ?_, ?_, ?_, ?_, ?_, ?_, ?_, ?_, ?_, trivial⟩
           all_goals
            intro L a' w' xs hi hd hf hJ K hK
            obtain ⟨hv, hb, h9⟩ := hJ
            have HF := Lib.hid hf
            have HVA := Lib.hid hv
            have HLI := Lib.hid hi
            clear hf hv hi
           focus
            clear hd
            obtain ⟨ρ, hρ⟩ : ∃ ρ, a'.eval = ρ := ⟨_, rfl⟩
            have hcst : ∀ v, ρ (.const v) = v := fun v => (congrFun hρ (.const v)).symm
            have l4 : ρ (.tmp 4) = .pointer (some ⟨w.heap.size, 0, none⟩) := (congrFun hρ (.tmp 4)).symm.trans (HF.out.lo 4 rfl)
            obtain ⟨k0, k1, k2, k3, k4⟩ := HIW.out _ hb
            rw [if_pos (by simp [Region.wanted])]
            unfold Oper.wp
            rw [hρ]
            clear hρ
            go_simp
            exact hK.out _ _ ⟨HVA.out.set (i := 0) (by rw [HVV.out]; rfl), hb, (by simp only [une xs 9 0 rfl]; exact h9)⟩
           focus
            clear hd
            obtain ⟨ρ, hρ⟩ : ∃ ρ, a'.eval = ρ := ⟨_, rfl⟩
            have hcst : ∀ v, ρ (.const v) = v := fun v => (congrFun hρ (.const v)).symm
            have l1 : ρ (.tmp 1) = .slice az zs.length cz := (congrFun hρ (.tmp 1)).symm.trans (HF.out.lo 1 rfl)
            rw [if_pos (by simp [Region.wanted])]
            unfold Oper.wp
            rw [hρ]
            clear hρ
            go_simp
            exact hK.out _ _ ⟨HVA.out.set (i := 1) (by rw [HVV.out]; rfl), hb, (by simp only [une xs 9 1 rfl]; exact h9)⟩
           focus
            clear hd
            obtain ⟨ρ, hρ⟩ : ∃ ρ, a'.eval = ρ := ⟨_, rfl⟩
            have hcst : ∀ v, ρ (.const v) = v := fun v => (congrFun hρ (.const v)).symm
            have l6 : ρ (.tmp 6) = .pointer (some ⟨w.heap.size + 1, 0, none⟩) := (congrFun hρ (.tmp 6)).symm.trans (HF.out.lo 6 rfl)
            rw [if_pos (by simp [Region.wanted])]
            unfold Oper.wp
            rw [hρ]
            clear hρ
            go_simp
            exact hK.out _ _ ⟨HVA.out.set (i := 2) (by rw [HVV.out]; rfl), hb, (by simp only [une xs 9 2 rfl]; exact h9)⟩
           focus
            obtain ⟨d2, _⟩ := hd
            obtain ⟨ρ, hρ⟩ : ∃ ρ, a'.eval = ρ := ⟨_, rfl⟩
            have hcst : ∀ v, ρ (.const v) = v := fun v => (congrFun hρ (.const v)).symm
            have v2 : ρ (.tmp 115) = .pointer (some ⟨w.heap.size + 1, 2, none⟩) := (congrFun hρ (.tmp 115)).symm.trans ((HF.out.ev 2 rfl d2).trans (HVA.out 2 _ (by rw [HVV.out]; rfl) d2))
            obtain ⟨k0, k1, k2, k3, k4⟩ := HIW.out _ hb
            rw [if_pos (by simp [Region.wanted])]
            unfold Oper.wp
            rw [hρ]
            clear hρ
            go_simp
            exact hK.out _ _ ⟨HVA.out.set (i := 3) (by rw [HVV.out]; rfl), hb, (by simp only [une xs 9 3 rfl]; exact h9)⟩
           focus
            clear hd
            obtain ⟨ρ, hρ⟩ : ∃ ρ, a'.eval = ρ := ⟨_, rfl⟩
            have hcst : ∀ v, ρ (.const v) = v := fun v => (congrFun hρ (.const v)).symm
            have l10 : ρ (.tmp 10) = .int .i64 (j : Int) := (congrFun hρ (.tmp 10)).symm.trans (HF.out.lo 10 rfl)
            rw [if_pos (by simp [Region.wanted])]
            unfold Oper.wp
            rw [hρ]
            clear hρ
            go_simp
            exact hK.out _ _ ⟨HVA.out.set (i := 4) (by rw [HVV.out]; rfl), hb, (by simp only [une xs 9 4 rfl]; exact h9)⟩
           focus
            obtain ⟨d3, d4, _⟩ := hd
            obtain ⟨ρ, hρ⟩ : ∃ ρ, a'.eval = ρ := ⟨_, rfl⟩
            have hcst : ∀ v, ρ (.const v) = v := fun v => (congrFun hρ (.const v)).symm
            have v3 : ρ (.tmp 116) = .slice (some ⟨bk, ok, none⟩) nk ck := (congrFun hρ (.tmp 116)).symm.trans ((HF.out.ev 3 rfl d3).trans (HVA.out 3 _ (by rw [HVV.out]; rfl) d3))
            have v4 : ρ (.tmp 117) = .int .i64 (j : Int) := (congrFun hρ (.tmp 117)).symm.trans ((HF.out.ev 4 rfl d4).trans (HVA.out 4 _ (by rw [HVV.out]; rfl) d4))
            rw [if_pos (by simp [Region.wanted])]
            unfold Oper.wp
            rw [hρ]
            clear hρ
            go_simp
            exact hK.out _ _ ⟨HVA.out.set (i := 5) (by rw [HVV.out]; rfl), hb, (by simp only [une xs 9 5 rfl]; exact h9)⟩
           focus
            obtain ⟨d5, _⟩ := hd
            obtain ⟨ρ, hρ⟩ : ∃ ρ, a'.eval = ρ := ⟨_, rfl⟩
            have hcst : ∀ v, ρ (.const v) = v := fun v => (congrFun hρ (.const v)).symm
            have v5 : ρ (.tmp 118) = .pointer (some ⟨bk, ok + j * 4, none⟩) := (congrFun hρ (.tmp 118)).symm.trans ((HF.out.ev 5 rfl d5).trans (HVA.out 5 _ (by rw [HVV.out]; rfl) d5))
            obtain ⟨e0, e1, e2, e3⟩ := HKC.out _ (HBR.out.trans (hb.mono HBR.out.size))
            rw [if_pos (by simp [Region.wanted])]
            unfold Oper.wp
            rw [hρ]
            clear hρ
            go_simp
            exact hK.out _ _ ⟨HVA.out.set (i := 6) (by rw [HVV.out]; rfl), hb, (by simp only [une xs 9 6 rfl]; exact h9)⟩
           focus
            clear hd
            obtain ⟨ρ, hρ⟩ : ∃ ρ, a'.eval = ρ := ⟨_, rfl⟩
            have hcst : ∀ v, ρ (.const v) = v := fun v => (congrFun hρ (.const v)).symm
            have l7 : ρ (.tmp 7) = .pointer (some ⟨w.heap.size + 1 + 1, 0, none⟩) := (congrFun hρ (.tmp 7)).symm.trans (HF.out.lo 7 rfl)
            obtain ⟨k0, k1, k2, k3, k4⟩ := HIW.out _ hb
            rw [if_pos (by simp [Region.wanted])]
            unfold Oper.wp
            rw [hρ]
            clear hρ
            go_simp
            exact hK.out _ _ ⟨HVA.out.set (i := 7) (by rw [HVV.out]; rfl), hb, (by simp only [une xs 9 7 rfl]; exact h9)⟩
           focus
            clear hd
            obtain ⟨ρ, hρ⟩ : ∃ ρ, a'.eval = ρ := ⟨_, rfl⟩
            have hcst : ∀ v, ρ (.const v) = v := fun v => (congrFun hρ (.const v)).symm
            have l11 : ρ (.tmp 11) = .int .i64 (i : Int) := (congrFun hρ (.tmp 11)).symm.trans (HF.out.lo 11 rfl)
            rw [if_pos (by simp [Region.wanted])]
            unfold Oper.wp
            rw [hρ]
            clear hρ
            go_simp
            exact hK.out _ _ ⟨HVA.out.set (i := 8) (by rw [HVV.out]; rfl), hb, (by simp only [une xs 9 8 rfl]; exact h9)⟩
           focus
            obtain ⟨d7, d8, _⟩ := hd
            obtain ⟨ρ, hρ⟩ : ∃ ρ, a'.eval = ρ := ⟨_, rfl⟩
            have hcst : ∀ v, ρ (.const v) = v := fun v => (congrFun hρ (.const v)).symm
            have hfun : ∀ k, ρ (.func k) = .func (.func k) #[] #[] := fun k => (congrFun hρ (.func k)).symm
            have v7 : ρ (.tmp 120) = .agg #[.slice a1 n1 c1, .slice a2 n2 c2] := (congrFun hρ (.tmp 120)).symm.trans ((HF.out.ev 7 rfl d7).trans (HVA.out 7 _ (by rw [HVV.out]; rfl) d7))
            have v8 : ρ (.tmp 121) = .int .i64 (i : Int) := (congrFun hρ (.tmp 121)).symm.trans ((HF.out.ev 8 rfl d8).trans (HVA.out 8 _ (by rw [HVV.out]; rfl) d8))
            rw [if_pos (by simp [Region.wanted])]
            unfold Oper.wp
            rw [hρ]
            clear hρ
            go_simp
            go_at_call 69
            refine (HDE.out _ hb).mono ?_
            rintro en w5' ⟨v5, rfl, hi5, hb5⟩
            exact hK.out _ _ ⟨HVA.out.free (i := 9) (by rw [HVV.out]; rfl) _, hb.trans (hb5.mono hb.size), (fun _ => by rw [updV_self]; exact ⟨v5, rfl, hi5⟩)⟩
           focus
            obtain ⟨d0, d1, d6, d9, _, _⟩ := hd
            obtain ⟨ρ, hρ⟩ : ∃ ρ, a'.eval = ρ := ⟨_, rfl⟩
            have hcst : ∀ v, ρ (.const v) = v := fun v => (congrFun hρ (.const v)).symm
            have hfun : ∀ k, ρ (.func k) = .func (.func k) #[] #[] := fun k => (congrFun hρ (.func k)).symm
            have v0 : ρ (.tmp 113) = .agg #[.int .i64 f.senders, .slice (some ⟨b, off, none⟩) f.lots.length cap] := (congrFun hρ (.tmp 113)).symm.trans ((HF.out.ev 0 rfl d0).trans (HVA.out 0 _ (by rw [HVV.out]; rfl) d0))
            have v1 : ρ (.tmp 114) = .slice az zs.length cz := (congrFun hρ (.tmp 114)).symm.trans ((HF.out.ev 1 rfl d1).trans (HVA.out 1 _ (by rw [HVV.out]; rfl) d1))
            have v6 : ρ (.tmp 119) = .agg #[.int .i64 y0, .int .i64 y1, .slice ak2 nq ck2, .int .i64 y3] := (congrFun hρ (.tmp 119)).symm.trans ((HF.out.ev 6 rfl d6).trans (HVA.out 6 _ (by rw [HVV.out]; rfl) d6))
            have v9 : ρ (.tmp 122) = xs 9 := (congrFun hρ (.tmp 122)).symm.trans (HF.out.ev 9 rfl d9)
            rw [if_pos (by simp [Region.wanted])]
            unfold Oper.wp
            rw [hρ]
            clear hρ
            obtain ⟨vP', e4, i4⟩ := h9 d9
            rw [e4] at v9
            go_simp
            go_at_call 47
            refine (HDN2.out _ _ hb i4).mono ?_
            rintro en w5' ⟨rfl, hb5⟩
            exact hK.out _ _ ⟨HVA.out.set (i := 10) (by rw [HVV.out]; rfl), hb.trans (hb5.mono hb.size), (by simp only [une xs 9 10 rfl]; exact fun e => HL7.out _ _ _ (h9 e) hb5)⟩
           focus
            obtain ⟨d10, _⟩ := hd
            obtain ⟨ρ, hρ⟩ : ∃ ρ, a'.eval = ρ := ⟨_, rfl⟩
            have hcst : ∀ v, ρ (.const v) = v := fun v => (congrFun hρ (.const v)).symm
            have v10 : ρ (.tmp 123) = .bool RB := (congrFun hρ (.tmp 123)).symm.trans ((HF.out.ev 10 rfl d10).trans (HVA.out 10 _ (by rw [HVV.out]; rfl) d10))
            rw [if_pos (by simp [Region.wanted])]
            unfold Oper.wp
            rw [hρ]
            clear hρ
            go_simp
            exact hK.out _ _ ⟨HVA.out.set (i := 11) (by rw [HVV.out]; rfl), hb, (by simp only [une xs 9 11 rfl]; exact h9)⟩
          focus
           intro L w' xs hL hJ
           obtain ⟨hv, hb, h9⟩ := hJ
           have e0 : xs 0 = .agg #[.int .i64 f.senders, .slice (some ⟨b, off, none⟩) f.lots.length cap] := hv 0 _ (by rw [HVV.out]; rfl) (hL 0 (by decide))
           have e1 : xs 1 = .slice az zs.length cz := hv 1 _ (by rw [HVV.out]; rfl) (hL 1 (by decide))
           have e2 : xs 2 = .pointer (some ⟨w.heap.size + 1, 2, none⟩) := hv 2 _ (by rw [HVV.out]; rfl) (hL 2 (by decide))
           have e3 : xs 3 = .slice (some ⟨bk, ok, none⟩) nk ck := hv 3 _ (by rw [HVV.out]; rfl) (hL 3 (by decide))
           have e4 : xs 4 = .int .i64 (j : Int) := hv 4 _ (by rw [HVV.out]; rfl) (hL 4 (by decide))
           have e5 : xs 5 = .pointer (some ⟨bk, ok + j * 4, none⟩) := hv 5 _ (by rw [HVV.out]; rfl) (hL 5 (by decide))
           have e6 : xs 6 = .agg #[.int .i64 y0, .int .i64 y1, .slice ak2 nq ck2, .int .i64 y3] := hv 6 _ (by rw [HVV.out]; rfl) (hL 6 (by decide))
           have e7 : xs 7 = .agg #[.slice a1 n1 c1, .slice a2 n2 c2] := hv 7 _ (by rw [HVV.out]; rfl) (hL 7 (by decide))
           have e8 : xs 8 = .int .i64 (i : Int) := hv 8 _ (by rw [HVV.out]; rfl) (hL 8 (by decide))
           have e10 : xs 10 = .bool RB := hv 10 _ (by rw [HVV.out]; rfl) (hL 10 (by decide))
           have e11 : xs 11 = .bool (!RB) := hv 11 _ (by rw [HVV.out]; rfl) (hL 11 (by decide))
           simp only [putGo, Act.put, List.setIfInBounds_toArray, List.set_cons_zero, List.set_cons_succ, e0, e1, e2, e3, e4, e5, e6, e7, e8, e10, e11]
           clear hv e0 e1 e2 e3 e4 e5 e6 e7 e8 e10 e11
           have hb' := hb
           obtain ⟨WC, rfl⟩ : ∃ W', W' = w' := ⟨_, rfl⟩
           have HBC : Hid (Below w.heap.size w WC) := Lib.hid (HBR.out.trans (hb'.mono HBR.out.size))
           have HBC5 := Lib.hid (HB1.out.trans (hb'.mono HB1.out.size))
           clear hb hb' hL h9
           cases RB
           ·have HRF : Hid (R = false) := Lib.hid (by rw [HRV7.out]; exact rkTo_stop hlti HHS.out HRB.out)
            go_wp2
            go_ret
            exact ⟨by rw [HRF.out]; rfl, HBC.out⟩
           ·have HRN := Lib.hid (rkTo_more HRR.out HRB.out)
            go_wp2
            go_roundw
            case rel => exact ⟨i + 1, by omega, by go_num, by rw [HFM.out]; go_num, HRN.out, HBC5.out⟩
            case measure => simp [intOf]; omega
         ·have HRN := Lib.hid (rkTo_skip HHS.out HRR.out)
          have HFS := Lib.hid (freeK_skip HHS.out)
          go_wp2
          go_roundw
          case rel => exact ⟨i + 1, by omega, by go_num, by rw [HFS.out], HRN.out, HB1.out⟩
          case measure => simp [intOf]; omega
        ·obtain rfl : i = N := by omega
         have HRT : Hid (R = true) := Lib.hid (by rw [HRV7.out]; exact HRR.out)
         go_wp2
         go_ret
         exact ⟨by rw [HRT.out]; rfl, HBR.out⟩
      ·have HRF : Hid (R = false) := Lib.hid (by rw [HRV6.out, decide_eq_false hnn]; rfl)
       have hnn1 : ((nk : Int) != (N : Int) - n2) = true := by simpa using hnn
       clear HRV6 hnn
       go_wp2
       go_quiet (fail)
       go_wp2
       go_ret
       exact ⟨by rw [HRF.out]; rfl, HDB.out _⟩
     ·have HRF : Hid (R = false) := Lib.hid (by rw [HRV5.out, decide_eq_false hss]; rfl)
      have hss1 : (s != 0) = true := by simpa using hss
      clear HRV5
      go_wp2
      go_quiet (fail)
      go_wp2
      go_ret
      exact ⟨by rw [HRF.out]; rfl, HDB.out _⟩
    ·have HRF : Hid (R = false) := Lib.hid (by rw [HRV4.out, decide_eq_false hii]; rfl)
     have hii1 : (i != (n2 : Int)) = true := by simpa using hii
     clear HRV4
     go_wp2
     go_quiet (fail)
     go_wp2
     go_ret
     exact ⟨by rw [HRF.out]; rfl, HDB.out _⟩
   ·have HRF : Hid (R = false) := Lib.hid (by rw [HRV3.out, decide_eq_false hll]; rfl)
    have hll1 : (l != (n1 : Int)) = true := by simpa using hll
    clear HRV3
    go_wp2
    go_quiet (fail)
    go_wp2
    go_ret
    exact ⟨by rw [HRF.out]; rfl, HDB.out _⟩
end Go.Proofs.Yteiaeaciaglmgaa
set_option linter.unusedVariables false
set_option linter.unusedSimpArgs false
namespace Go.Proofs.Yteiaeaciaglmgaa
open Go.RowKit
/-- frankingref29.right -/
theorem right29_any : ∀ (n B : Nat) (w : World) (vs vl va vW vP : Value) (cd : List Value) (f : Flow) (zs : List Int) (W : List (List Int)) (part : List Int) (p : Den), IsFlow B w vs vl f → IsInts B w va zs → IsMat B w vW W → IsInts B w vP part → IsDen B w cd p → B ≤ w.heap.size → checkE f = 0 → (zs.length : Int) = f.senders → StOk f W part → undS f W part ≤ n →
  Calls Try.prog 47 #[.agg #[vs, vl], va, .agg cd.toArray, .agg #[vW, vP]] w fun e w' => e = .returned (.bool (rightN f zs n W part p)) ∧ Below w.heap.size w w' := by
 intro n
 induction n with
 | zero =>
  intro B w vs vl va vW vP cd f zs W part p hf hz hW hp hd hB hck hzl hso hu
  have hlots := (checkE_ok hck).2.2.2.2
  have hst : Settled f W part (settleS f W part) := settle_ok hlots (f.lots.length - W.length) W part (by have := hso.len; omega) hso
  have hend : (settleS f W part).1.length = f.lots.length := by
   rcases hst.end' with h | ⟨h1, h2, h3⟩
   ·exact h.1
   ·have := und_pos h1 h2 h3 0
    have := hst.und
    omega
  refine right29_step B w vs vl va vW vP cd f zs W part (settleS f W part).1 (settleS f W part).2 p _ false (fun _ _ => false) hf hz hW hp hd hB hck hzl hso.len rfl hst.ok ?_ (fun h => by omega) (fun h => by omega)
  unfold rightN
  rfl
 | succ n ih =>
  intro B w vs vl va vW vP cd f zs W part p hf hz hW hp hd hB hck hzl hso hu
  have hlots := (checkE_ok hck).2.2.2.2
  have hst : Settled f W part (settleS f W part) := settle_ok hlots (f.lots.length - W.length) W part (by have := hso.len; omega) hso
  refine right29_step B w vs vl va vW vP cd f zs W part (settleS f W part).1 (settleS f W part).2 p _ (rkTo (fun i d => rightN f zs n (settleS f W part).1 ((settleS f W part).2 ++ [i]) d) (settleS f W part).2 p.kids (lotAt f.lots (settleS f W part).1.length).ins.length) (fun i d => rightN f zs n (settleS f W part).1 ((settleS f W part).2 ++ [i]) d) hf hz hW hp hd hB hck hzl hso.len rfl hst.ok ?_ (fun _ => rfl) (fun h1 i j W' vW' vP' cd' hi hn hj hW' hd' hm' hp' => ?_)
  ·conv => lhs; unfold rightN
  ·rcases hst.end' with h | ⟨_, h2, h3⟩
   ·omega
   ·have := und_pos (f := f) h1 h2 h3 (i : Int)
    have := hst.und
    exact ih W'.heap.size W' vs vl va vW' vP' cd' f zs _ _ _ ((hf.below hW' hB).mono (Nat.le_trans hB hW'.size)) ((hz.below hW' hB).mono (Nat.le_trans hB hW'.size)) hm' hp' (IsDen.mono hd' (Nat.le_trans hB hW'.size)) (Nat.le_refl _) hck hzl (hst.ok.more h2 h3 hi hn) (by omega)
set_option maxHeartbeats 4000000 in
set_option maxRecDepth 100000 in
/-- frankingref29.Refutes -/
theorem rrefutes29_any (B : Nat) (w : World) (vs vl va : Value) (cd : List Value) (f : Flow) (zs : List Int) (p : Den) (hf : IsFlow B w vs vl f) (hz : IsInts B w va zs) (hd : IsDen B w cd p) (hB : B ≤ w.heap.size) :
  Calls Try.prog 19 #[.agg #[vs, vl], va, .agg cd.toArray] w fun e w' => e = .returned (.tuple #[.bool (refutesB f zs p), .int .i64 (errX f zs)]) ∧ Below w.heap.size w w' := by
 have HF := Lib.hid hf
 have HZ := Lib.hid hz
 have HD := Lib.hid hd
 obtain ⟨rfl, ⟨hs1, hs2⟩, hl'⟩ := hf
 obtain ⟨b, off, cap, ⟨a, rfl, hcap, hmax, ha⟩, hlen, hc⟩ := hl'
 obtain ⟨az, cz, rfl⟩ := hz.form
 obtain ⟨ak, ck, rfl, _⟩ := hd.form
 obtain ⟨l, hl⟩ : ∃ x, p.lot = x := ⟨_, rfl⟩
 obtain ⟨i, hi⟩ : ∃ x, p.inn = x := ⟨_, rfl⟩
 obtain ⟨s, hs⟩ : ∃ x, p.sender = x := ⟨_, rfl⟩
 obtain ⟨nk, hnk⟩ : ∃ x, p.kids.length = x := ⟨_, rfl⟩
 rw [hl, hi, hs, hnk] at HD ⊢
 clear hz ha hc hd hl hi hs hnk
 go_enter Try.func19, Try.ntmps19
 go_upto_region 1 with fail
 refine wp_name (fun W1 hW1 => ?_)
 have HX1 : Hid (Box W1 w.heap.size #[.int .i64 f.senders, .slice a f.lots.length cap]) := Lib.hid (by rw [hW1]; exact (Box.new w #[.int .i64 f.senders, .slice a f.lots.length cap] 24).alloc _)
 have HR1 : Hid (Box W1 (w.heap.size + 1) #[.int .i64 l, .int .i64 i, .slice ak nk ck, .int .i64 s]) := Lib.hid (by
  rw [hW1]
  have h := Box.new (w.alloc (.cells #[.int .i64 f.senders, .slice a f.lots.length cap] 24)) #[.int .i64 l, .int .i64 i, .slice ak nk ck, .int .i64 s] 31
  rw [World.size_alloc] at h
  exact h)
 have HW1 : Hid (Below w.heap.size w W1) := Lib.hid (by rw [hW1]; exact (box_below' w _).trans ((box_below' _ _).mono (by simp)))
 clear hW1
 have r1 := HX1.out.2
 go_wp2_with fail
 refine (error29_any B W1 _ _ _ f zs (HF.out.below HW1.out hB) (HZ.out.below HW1.out hB) (Nat.le_trans hB HW1.out.size)).mono ?_
 rintro e W2 ⟨rfl, hb2⟩
 have HX2 := Lib.hid (HX1.out.ext hb2)
 have HR2 := Lib.hid (HR1.out.ext hb2)
 have HW2 : Hid (Below w.heap.size w W2) := Lib.hid (HW1.out.trans (hb2.mono HW1.out.size))
 clear hb2 r1
 have r2 := HX2.out.2
 have d2 := HR2.out.2
 by_cases he : errX f zs = 0
 ·obtain ⟨hck, _, hzl⟩ := errX_ok he
  have HDN := Lib.hid (right29_any (undM f f.lots.length) W2.heap.size W2 _ _ _ (.slice none 0 0) (.slice none 0 0) _ f zs [] [] p ((HF.out.below HW2.out hB).mono (Nat.le_trans hB HW2.out.size)) ((HZ.out.below HW2.out hB).mono (Nat.le_trans hB HW2.out.size)) (IsMatX.nil (fun _ => True) W2).mat (IsIntsX.nil (fun _ => True) W2).ints (IsDen.mono (IsDen.below HD.out HW2.out hB) (Nat.le_trans hB HW2.out.size)) (Nat.le_refl _) hck hzl (StOk.start f) (by unfold undS; simp))
  have HE := Lib.hid he
  have he' : (errX f zs != 0) = false := by simpa using he
  have hB0 : Hid (refutesB f zs p = rightN f zs (undM f f.lots.length) [] [] p) := Lib.hid (by unfold refutesB; rw [decide_eq_true he, Bool.true_and])
  rw [← hB0.out] at HDN
  clear he hck hzl
  go_wp2_with fail
  refine HDN.out.mono ?_
  rintro e W3 ⟨rfl, hb3⟩
  have HW3 : Hid (Below w.heap.size w W3) := Lib.hid (HW2.out.trans (hb3.mono HW2.out.size))
  clear hb3 r2 d2
  obtain ⟨DV, hDV⟩ : ∃ x, refutesB f zs p = x := ⟨_, rfl⟩
  rw [hDV]
  go_wp2
  go_ret2
  exact ⟨by rw [HE.out, hDV]; rfl, HW3.out⟩
 ·have he' : (errX f zs != 0) = true := by simpa using he
  have HEM : Hid (refutesB f zs p = false) := Lib.hid (by unfold refutesB; rw [decide_eq_false he, Bool.false_and])
  clear he
  obtain ⟨EV, hEV⟩ : ∃ x, errX f zs = x := ⟨_, rfl⟩
  rw [hEV] at he' ⊢
  go_wp2
  go_ret2
  exact ⟨by rw [HEM.out, hEV]; rfl, HW2.out⟩
theorem den_lt {d : Den} {j : Nat} (hj : j < d.kids.length) : SizeOf.sizeOf (denAt d.kids j) < SizeOf.sizeOf d := by
 cases d with
 | mk l i kids s =>
  have hj' : j < kids.length := hj
  have h1 : denAt kids j = kids[j] := by unfold denAt; rw [List.getD_eq_getElem?_getD, List.getElem?_eq_getElem hj']; rfl
  have h2 := List.sizeOf_lt_of_mem (List.getElem_mem hj')
  show SizeOf.sizeOf (denAt kids j) < _
  rw [h1]
  simp only [Den.mk.sizeOf_spec]
  omega
set_option maxHeartbeats 4000000 in
set_option maxRecDepth 100000 in
theorem same29_step (B : Nat) (w : World) (cd cd2 : List Value) (p : Den) (hd : IsDen B w cd p) (hd2 : IsDen B w cd2 p) (hB : B ≤ w.heap.size)
  (hih : ∀ (j : Nat) (W' : World) (k1 k2 : List Value), j < p.kids.length → Below w.heap.size w W' → IsDen B W' k1 (denAt p.kids j) → IsDen B W' k2 (denAt p.kids j) →
   Calls Try.prog 20 #[.agg k1.toArray, .agg k2.toArray] W' fun e w' => e = .returned (.bool true) ∧ Below W'.heap.size W' w') :
  Calls Try.prog 20 #[.agg cd.toArray, .agg cd2.toArray] w fun e w' => e = .returned (.bool true) ∧ Below w.heap.size w w' := by
 obtain ⟨ak, ck, rfl, _, _, _, hkl, bk, ok, hak, hkk⟩ := hd.form
 obtain ⟨ak2, ck2, rfl, _, _, _, _, bk2, ok2, hak2, hkk2⟩ := hd2.form
 have HKK := Lib.hid hkk
 have HAK := Lib.hid hak
 have HKK2 := Lib.hid hkk2
 have HAK2 := Lib.hid hak2
 have HIH := Lib.hid hih
 unfold LK at hkl
 obtain ⟨l, hl⟩ : ∃ x, p.lot = x := ⟨_, rfl⟩
 obtain ⟨i, hi⟩ : ∃ x, p.inn = x := ⟨_, rfl⟩
 obtain ⟨s, hs⟩ : ∃ x, p.sender = x := ⟨_, rfl⟩
 obtain ⟨nk, hnk⟩ : ∃ x, p.kids.length = x := ⟨_, rfl⟩
 rw [hl, hi, hs, hnk]
 rw [hnk] at HAK HAK2 HKK HKK2 HIH hkl
 clear hd hd2 hak hak2 hkk hkk2 hih hl hi hs hnk
 go_enter Try.func20, Try.ntmps20
 go_upto_region 1 with fail
 refine wp_name (fun W1 hW1 => ?_)
 have HX1 : Hid (Box W1 w.heap.size #[.int .i64 l, .int .i64 i, .slice ak nk ck, .int .i64 s]) := Lib.hid (by rw [hW1]; exact (Box.new w #[.int .i64 l, .int .i64 i, .slice ak nk ck, .int .i64 s] 31).alloc _)
 have HY1 : Hid (Box W1 (w.heap.size + 1) #[.int .i64 l, .int .i64 i, .slice ak2 nk ck2, .int .i64 s]) := Lib.hid (by
  rw [hW1]
  have h := Box.new (w.alloc (.cells #[.int .i64 l, .int .i64 i, .slice ak nk ck, .int .i64 s] 31)) #[.int .i64 l, .int .i64 i, .slice ak2 nk ck2, .int .i64 s] 31
  rw [World.size_alloc] at h
  exact h)
 have HW1 : Hid (Below w.heap.size w W1) := Lib.hid (by rw [hW1]; exact (box_below' w _).trans ((box_below' _ _).mono (by simp)))
 clear hW1
 have r1 := HX1.out.2
 have d1 := HY1.out.2
 have hl0 : (l != l) = false := by simp
 have hi0 : (i != i) = false := by simp
 have hs0 : (s != s) = false := by simp
 have hn0 : ((nk : Int) != (nk : Int)) = false := by simp
 go_wp2
 clear r1 d1
 go_loopw [5] (fun i' wr => ∃ j : Nat, j ≤ nk ∧ i' = .int .i64 j ∧ Below W1.heap.size W1 wr) (fun i' _ => nk - (intOf i').toNat)
 case atStart => exact ⟨0, by omega, rfl, Below.refl _ _⟩
 case round =>
  obtain ⟨j, hj, rfl, hb1⟩ := hrel
  have HB1 := Lib.hid hb1
  have HBR : Hid (Below w.heap.size w wr) := Lib.hid (HW1.out.trans (hb1.mono HW1.out.size))
  have HXR := Lib.hid (HX1.out.ext hb1)
  have HYR := Lib.hid (HY1.out.ext hb1)
  have r4 := HXR.out.2
  have d4 := HYR.out.2
  clear hb1
  by_cases hlt : j < nk
  ·obtain rfl : ak = some ⟨bk, ok, none⟩ := by rcases HAK.out with h | h; exact h; omega
   obtain rfl : ak2 = some ⟨bk2, ok2, none⟩ := by rcases HAK2.out with h | h; exact h; omega
   obtain ⟨hbk, cs, hcs, hds⟩ := HKK.out j hlt
   obtain ⟨hbk2, cs2, hcs2, hds2⟩ := HKK2.out j hlt
   have HDS := Lib.hid hds
   have HDS2 := Lib.hid hds2
   have hbq : bk < B := hbk
   have hbq2 : bk2 < B := hbk2
   obtain ⟨aq, cq, hce, _⟩ := hds.form
   obtain ⟨aq2, cq2, hce2, _⟩ := hds2.form
   obtain ⟨y0, y1, y3, nq, hy0⟩ : ∃ y0 y1 y3 nq, cs = [.int .i64 y0, .int .i64 y1, .slice aq nq cq, .int .i64 y3] := ⟨_, _, _, _, hce⟩
   obtain ⟨z0, z1, z3, nq2, hz0⟩ : ∃ y0 y1 y3 nq, cs2 = [.int .i64 y0, .int .i64 y1, .slice aq2 nq cq2, .int .i64 y3] := ⟨_, _, _, _, hce2⟩
   subst hy0 hz0
   have HKC : Hid (∀ W', Below w.heap.size w W' → W'.cell? ⟨bk, ok + j * 4, none⟩ = some (.int .i64 y0) ∧ W'.cell? ⟨bk, ok + j * 4 + 1, none⟩ = some (.int .i64 y1) ∧ W'.cell? ⟨bk, ok + j * 4 + 2, none⟩ = some (.slice aq nq cq) ∧ W'.cell? ⟨bk, ok + j * 4 + 3, none⟩ = some (.int .i64 y3)) := Lib.hid fun W' hW' =>
    ⟨(hW'.cell (p := ⟨bk, ok + j * 4, none⟩) (by show bk < _; omega)).trans (hcs 0 _ rfl), (hW'.cell (p := ⟨bk, ok + j * 4 + 1, none⟩) (by show bk < _; omega)).trans (hcs 1 _ rfl), (hW'.cell (p := ⟨bk, ok + j * 4 + 2, none⟩) (by show bk < _; omega)).trans (hcs 2 _ rfl), (hW'.cell (p := ⟨bk, ok + j * 4 + 3, none⟩) (by show bk < _; omega)).trans (hcs 3 _ rfl)⟩
   have HKC2 : Hid (∀ W', Below w.heap.size w W' → W'.cell? ⟨bk2, ok2 + j * 4, none⟩ = some (.int .i64 z0) ∧ W'.cell? ⟨bk2, ok2 + j * 4 + 1, none⟩ = some (.int .i64 z1) ∧ W'.cell? ⟨bk2, ok2 + j * 4 + 2, none⟩ = some (.slice aq2 nq2 cq2) ∧ W'.cell? ⟨bk2, ok2 + j * 4 + 3, none⟩ = some (.int .i64 z3)) := Lib.hid fun W' hW' =>
    ⟨(hW'.cell (p := ⟨bk2, ok2 + j * 4, none⟩) (by show bk2 < _; omega)).trans (hcs2 0 _ rfl), (hW'.cell (p := ⟨bk2, ok2 + j * 4 + 1, none⟩) (by show bk2 < _; omega)).trans (hcs2 1 _ rfl), (hW'.cell (p := ⟨bk2, ok2 + j * 4 + 2, none⟩) (by show bk2 < _; omega)).trans (hcs2 2 _ rfl), (hW'.cell (p := ⟨bk2, ok2 + j * 4 + 3, none⟩) (by show bk2 < _; omega)).trans (hcs2 3 _ rfl)⟩
   have HIW : Hid (∀ W', Below wr.heap.size wr W' → W'.cell? ⟨w.heap.size, 2, none⟩ = some (.slice (some ⟨bk, ok, none⟩) nk ck) ∧ W'.cell? ⟨w.heap.size + 1, 2, none⟩ = some (.slice (some ⟨bk2, ok2, none⟩) nk ck2)) := Lib.hid fun W' hW' => ⟨(HXR.out.ext hW').2 2, (HYR.out.ext hW').2 2⟩
   have HCL : Hid (∀ W', Below wr.heap.size wr W' → Calls Try.prog 20 #[.agg #[.int .i64 y0, .int .i64 y1, .slice aq nq cq, .int .i64 y3], .agg #[.int .i64 z0, .int .i64 z1, .slice aq2 nq2 cq2, .int .i64 z3]] W' fun e w' => e = .returned (.bool true) ∧ Below W'.heap.size W' w') := Lib.hid fun W' hW' => by
    have hWW := HBR.out.trans (hW'.mono HBR.out.size)
    exact HIH.out j W' [.int .i64 y0, .int .i64 y1, .slice aq nq cq, .int .i64 y3] [.int .i64 z0, .int .i64 z1, .slice aq2 nq2 cq2, .int .i64 z3] hlt hWW (IsDen.below HDS.out hWW hB) (IsDen.below HDS2.out hWW hB)
   obtain ⟨wq, rfl⟩ : ∃ W', W' = wr := ⟨_, rfl⟩
   clear hce hce2 hcs hcs2 hds hds2
   go_upto_region 6 with fail
   clear r4 d4
   obtain ⟨V, hV⟩ : ∃ V : List (Option Value), V = [some (.pointer (some ⟨w.heap.size, 2, none⟩)), some (.slice (some ⟨bk, ok, none⟩) nk ck), some (.int .i64 (j : Int)), some (.pointer (some ⟨bk, ok + j * 4, none⟩)), some (.agg #[.int .i64 y0, .int .i64 y1, .slice aq nq cq, .int .i64 y3]), some (.pointer (some ⟨w.heap.size + 1, 2, none⟩)), some (.slice (some ⟨bk2, ok2, none⟩) nk ck2), some (.int .i64 (j : Int)), some (.pointer (some ⟨bk2, ok2 + j * 4, none⟩)), some (.agg #[.int .i64 z0, .int .i64 z1, .slice aq2 nq2 cq2, .int .i64 z3]), some (.bool true), some (.bool false)] := ⟨_, rfl⟩
   have HVV := Lib.hid hV
   clear hV
   refine wp_region_V [some 41, some 42, some 43, some 44, some 45, some 46, some 47, some 48, some 49, some 50, some 51, some 52] (fun L w' xs => ValsAt V L xs ∧ (Below wq.heap.size wq w')) (by kernel_rfl) (by kernel_rfl) (by rfl) (by rfl) (by rfl) ?_ ?_ ?_
   focus
    exact fun xs => ⟨ValsAt.none _ _, (Below.refl _ _).drew⟩
   focus
    refine ⟨?_, ?_, ?_, ?_, ?_, ?_, ?_, ?_, ?_, ?_, ?_, ?_, trivial⟩
    all_goals
     intro L a' w' xs hi hd hf hJ K hK
     obtain ⟨hv, hb⟩ := hJ
     have HF := Lib.hid hf
     have HVA := Lib.hid hv
     have HLI := Lib.hid hi
     clear hf hv hi
    focus
     clear hd
     obtain ⟨ρ, hρ⟩ : ∃ ρ, a'.eval = ρ := ⟨_, rfl⟩
     have hcst : ∀ v, ρ (.const v) = v := fun v => (congrFun hρ (.const v)).symm
     have l2 : ρ (.tmp 2) = .pointer (some ⟨w.heap.size, 0, none⟩) := (congrFun hρ (.tmp 2)).symm.trans (HF.out.lo 2 rfl)
     rw [if_pos (by simp [Region.wanted])]
     unfold Oper.wp
     rw [hρ]
     clear hρ
     go_simp
     exact hK.out _ _ ⟨HVA.out.set (i := 0) (by rw [HVV.out]; rfl), hb⟩
    focus
     obtain ⟨d0, _⟩ := hd
     obtain ⟨ρ, hρ⟩ : ∃ ρ, a'.eval = ρ := ⟨_, rfl⟩
     have hcst : ∀ v, ρ (.const v) = v := fun v => (congrFun hρ (.const v)).symm
     have v0 : ρ (.tmp 41) = .pointer (some ⟨w.heap.size, 2, none⟩) := (congrFun hρ (.tmp 41)).symm.trans ((HF.out.ev 0 rfl d0).trans (HVA.out 0 _ (by rw [HVV.out]; rfl) d0))
     obtain ⟨k0, k1⟩ := HIW.out _ hb
     rw [if_pos (by simp [Region.wanted])]
     unfold Oper.wp
     rw [hρ]
     clear hρ
     go_simp
     exact hK.out _ _ ⟨HVA.out.set (i := 1) (by rw [HVV.out]; rfl), hb⟩
    focus
     clear hd
     obtain ⟨ρ, hρ⟩ : ∃ ρ, a'.eval = ρ := ⟨_, rfl⟩
     have hcst : ∀ v, ρ (.const v) = v := fun v => (congrFun hρ (.const v)).symm
     have l5 : ρ (.tmp 5) = .int .i64 (j : Int) := (congrFun hρ (.tmp 5)).symm.trans (HF.out.lo 5 rfl)
     rw [if_pos (by simp [Region.wanted])]
     unfold Oper.wp
     rw [hρ]
     clear hρ
     go_simp
     exact hK.out _ _ ⟨HVA.out.set (i := 2) (by rw [HVV.out]; rfl), hb⟩
    focus
     obtain ⟨d1, d2, _⟩ := hd
     obtain ⟨ρ, hρ⟩ : ∃ ρ, a'.eval = ρ := ⟨_, rfl⟩
     have hcst : ∀ v, ρ (.const v) = v := fun v => (congrFun hρ (.const v)).symm
     have v1 : ρ (.tmp 42) = .slice (some ⟨bk, ok, none⟩) nk ck := (congrFun hρ (.tmp 42)).symm.trans ((HF.out.ev 1 rfl d1).trans (HVA.out 1 _ (by rw [HVV.out]; rfl) d1))
     have v2 : ρ (.tmp 43) = .int .i64 (j : Int) := (congrFun hρ (.tmp 43)).symm.trans ((HF.out.ev 2 rfl d2).trans (HVA.out 2 _ (by rw [HVV.out]; rfl) d2))
     rw [if_pos (by simp [Region.wanted])]
     unfold Oper.wp
     rw [hρ]
     clear hρ
     go_simp
     exact hK.out _ _ ⟨HVA.out.set (i := 3) (by rw [HVV.out]; rfl), hb⟩
    focus
     obtain ⟨d3, _⟩ := hd
     obtain ⟨ρ, hρ⟩ : ∃ ρ, a'.eval = ρ := ⟨_, rfl⟩
     have hcst : ∀ v, ρ (.const v) = v := fun v => (congrFun hρ (.const v)).symm
     have v3 : ρ (.tmp 44) = .pointer (some ⟨bk, ok + j * 4, none⟩) := (congrFun hρ (.tmp 44)).symm.trans ((HF.out.ev 3 rfl d3).trans (HVA.out 3 _ (by rw [HVV.out]; rfl) d3))
     obtain ⟨e0, e1, e2, e3⟩ := HKC.out _ (HBR.out.trans (hb.mono HBR.out.size))
     rw [if_pos (by simp [Region.wanted])]
     unfold Oper.wp
     rw [hρ]
     clear hρ
     go_simp
     exact hK.out _ _ ⟨HVA.out.set (i := 4) (by rw [HVV.out]; rfl), hb⟩
    focus
     clear hd
     obtain ⟨ρ, hρ⟩ : ∃ ρ, a'.eval = ρ := ⟨_, rfl⟩
     have hcst : ∀ v, ρ (.const v) = v := fun v => (congrFun hρ (.const v)).symm
     have l3 : ρ (.tmp 3) = .pointer (some ⟨w.heap.size + 1, 0, none⟩) := (congrFun hρ (.tmp 3)).symm.trans (HF.out.lo 3 rfl)
     rw [if_pos (by simp [Region.wanted])]
     unfold Oper.wp
     rw [hρ]
     clear hρ
     go_simp
     exact hK.out _ _ ⟨HVA.out.set (i := 5) (by rw [HVV.out]; rfl), hb⟩
    focus
     obtain ⟨d5, _⟩ := hd
     obtain ⟨ρ, hρ⟩ : ∃ ρ, a'.eval = ρ := ⟨_, rfl⟩
     have hcst : ∀ v, ρ (.const v) = v := fun v => (congrFun hρ (.const v)).symm
     have v5 : ρ (.tmp 46) = .pointer (some ⟨w.heap.size + 1, 2, none⟩) := (congrFun hρ (.tmp 46)).symm.trans ((HF.out.ev 5 rfl d5).trans (HVA.out 5 _ (by rw [HVV.out]; rfl) d5))
     obtain ⟨k0, k1⟩ := HIW.out _ hb
     rw [if_pos (by simp [Region.wanted])]
     unfold Oper.wp
     rw [hρ]
     clear hρ
     go_simp
     exact hK.out _ _ ⟨HVA.out.set (i := 6) (by rw [HVV.out]; rfl), hb⟩
    focus
     clear hd
     obtain ⟨ρ, hρ⟩ : ∃ ρ, a'.eval = ρ := ⟨_, rfl⟩
     have hcst : ∀ v, ρ (.const v) = v := fun v => (congrFun hρ (.const v)).symm
     have l5 : ρ (.tmp 5) = .int .i64 (j : Int) := (congrFun hρ (.tmp 5)).symm.trans (HF.out.lo 5 rfl)
     rw [if_pos (by simp [Region.wanted])]
     unfold Oper.wp
     rw [hρ]
     clear hρ
     go_simp
     exact hK.out _ _ ⟨HVA.out.set (i := 7) (by rw [HVV.out]; rfl), hb⟩
    focus
     obtain ⟨d6, d7, _⟩ := hd
     obtain ⟨ρ, hρ⟩ : ∃ ρ, a'.eval = ρ := ⟨_, rfl⟩
     have hcst : ∀ v, ρ (.const v) = v := fun v => (congrFun hρ (.const v)).symm
     have v6 : ρ (.tmp 47) = .slice (some ⟨bk2, ok2, none⟩) nk ck2 := (congrFun hρ (.tmp 47)).symm.trans ((HF.out.ev 6 rfl d6).trans (HVA.out 6 _ (by rw [HVV.out]; rfl) d6))
     have v7 : ρ (.tmp 48) = .int .i64 (j : Int) := (congrFun hρ (.tmp 48)).symm.trans ((HF.out.ev 7 rfl d7).trans (HVA.out 7 _ (by rw [HVV.out]; rfl) d7))
     rw [if_pos (by simp [Region.wanted])]
     unfold Oper.wp
     rw [hρ]
     clear hρ
     go_simp
     exact hK.out _ _ ⟨HVA.out.set (i := 8) (by rw [HVV.out]; rfl), hb⟩
    focus
     obtain ⟨d8, _⟩ := hd
     obtain ⟨ρ, hρ⟩ : ∃ ρ, a'.eval = ρ := ⟨_, rfl⟩
     have hcst : ∀ v, ρ (.const v) = v := fun v => (congrFun hρ (.const v)).symm
     have v8 : ρ (.tmp 49) = .pointer (some ⟨bk2, ok2 + j * 4, none⟩) := (congrFun hρ (.tmp 49)).symm.trans ((HF.out.ev 8 rfl d8).trans (HVA.out 8 _ (by rw [HVV.out]; rfl) d8))
     obtain ⟨e0, e1, e2, e3⟩ := HKC2.out _ (HBR.out.trans (hb.mono HBR.out.size))
     rw [if_pos (by simp [Region.wanted])]
     unfold Oper.wp
     rw [hρ]
     clear hρ
     go_simp
     exact hK.out _ _ ⟨HVA.out.set (i := 9) (by rw [HVV.out]; rfl), hb⟩
    focus
     obtain ⟨d4, d9, _⟩ := hd
     obtain ⟨ρ, hρ⟩ : ∃ ρ, a'.eval = ρ := ⟨_, rfl⟩
     have hcst : ∀ v, ρ (.const v) = v := fun v => (congrFun hρ (.const v)).symm
     have hfun : ∀ k, ρ (.func k) = .func (.func k) #[] #[] := fun k => (congrFun hρ (.func k)).symm
     have v4 : ρ (.tmp 45) = .agg #[.int .i64 y0, .int .i64 y1, .slice aq nq cq, .int .i64 y3] := (congrFun hρ (.tmp 45)).symm.trans ((HF.out.ev 4 rfl d4).trans (HVA.out 4 _ (by rw [HVV.out]; rfl) d4))
     have v9 : ρ (.tmp 50) = .agg #[.int .i64 z0, .int .i64 z1, .slice aq2 nq2 cq2, .int .i64 z3] := (congrFun hρ (.tmp 50)).symm.trans ((HF.out.ev 9 rfl d9).trans (HVA.out 9 _ (by rw [HVV.out]; rfl) d9))
     rw [if_pos (by simp [Region.wanted])]
     unfold Oper.wp
     rw [hρ]
     clear hρ
     go_simp
     go_at_call 20
     refine (HCL.out _ hb).mono ?_
     rintro en w5' ⟨rfl, hb5⟩
     exact hK.out _ _ ⟨HVA.out.set (i := 10) (by rw [HVV.out]; rfl), hb.trans (hb5.mono hb.size)⟩
    focus
     obtain ⟨d10, _⟩ := hd
     obtain ⟨ρ, hρ⟩ : ∃ ρ, a'.eval = ρ := ⟨_, rfl⟩
     have hcst : ∀ v, ρ (.const v) = v := fun v => (congrFun hρ (.const v)).symm
     have v10 : ρ (.tmp 51) = .bool true := (congrFun hρ (.tmp 51)).symm.trans ((HF.out.ev 10 rfl d10).trans (HVA.out 10 _ (by rw [HVV.out]; rfl) d10))
     rw [if_pos (by simp [Region.wanted])]
     unfold Oper.wp
     rw [hρ]
     clear hρ
     go_simp
     exact hK.out _ _ ⟨HVA.out.set (i := 11) (by rw [HVV.out]; rfl), hb⟩
   focus
    intro L w' xs hL hJ
    obtain ⟨hv, hb⟩ := hJ
    have e0 : xs 0 = .pointer (some ⟨w.heap.size, 2, none⟩) := hv 0 _ (by rw [HVV.out]; rfl) (hL 0 (by decide))
    have e1 : xs 1 = .slice (some ⟨bk, ok, none⟩) nk ck := hv 1 _ (by rw [HVV.out]; rfl) (hL 1 (by decide))
    have e2 : xs 2 = .int .i64 (j : Int) := hv 2 _ (by rw [HVV.out]; rfl) (hL 2 (by decide))
    have e3 : xs 3 = .pointer (some ⟨bk, ok + j * 4, none⟩) := hv 3 _ (by rw [HVV.out]; rfl) (hL 3 (by decide))
    have e4 : xs 4 = .agg #[.int .i64 y0, .int .i64 y1, .slice aq nq cq, .int .i64 y3] := hv 4 _ (by rw [HVV.out]; rfl) (hL 4 (by decide))
    have e5 : xs 5 = .pointer (some ⟨w.heap.size + 1, 2, none⟩) := hv 5 _ (by rw [HVV.out]; rfl) (hL 5 (by decide))
    have e6 : xs 6 = .slice (some ⟨bk2, ok2, none⟩) nk ck2 := hv 6 _ (by rw [HVV.out]; rfl) (hL 6 (by decide))
    have e7 : xs 7 = .int .i64 (j : Int) := hv 7 _ (by rw [HVV.out]; rfl) (hL 7 (by decide))
    have e8 : xs 8 = .pointer (some ⟨bk2, ok2 + j * 4, none⟩) := hv 8 _ (by rw [HVV.out]; rfl) (hL 8 (by decide))
    have e9 : xs 9 = .agg #[.int .i64 z0, .int .i64 z1, .slice aq2 nq2 cq2, .int .i64 z3] := hv 9 _ (by rw [HVV.out]; rfl) (hL 9 (by decide))
    have e10 : xs 10 = .bool true := hv 10 _ (by rw [HVV.out]; rfl) (hL 10 (by decide))
    have e11 : xs 11 = .bool false := hv 11 _ (by rw [HVV.out]; rfl) (hL 11 (by decide))
    simp only [putGo, Act.put, List.setIfInBounds_toArray, List.set_cons_zero, List.set_cons_succ, e0, e1, e2, e3, e4, e5, e6, e7, e8, e9, e10, e11]
    clear hv e0 e1 e2 e3 e4 e5 e6 e7 e8 e9 e10 e11
    have hb' := hb
    obtain ⟨WC, rfl⟩ : ∃ W', W' = w' := ⟨_, rfl⟩
    have HBC5 := Lib.hid (HB1.out.trans (hb'.mono HB1.out.size))
    clear hb hb' hL
    go_wp2
    go_roundw
    case rel => exact ⟨j + 1, by omega, by go_num, HBC5.out⟩
    case measure => simp [intOf]; omega
  ·obtain rfl : j = nk := by omega
   go_wp2
   go_ret
   exact ⟨rfl, HBR.out⟩
/-- frankingref29.Same, of two pictures of one denial -/
theorem same29_any : ∀ (n B : Nat) (w : World) (cd cd2 : List Value) (p : Den), SizeOf.sizeOf p ≤ n → IsDen B w cd p → IsDen B w cd2 p → B ≤ w.heap.size →
  Calls Try.prog 20 #[.agg cd.toArray, .agg cd2.toArray] w fun e w' => e = .returned (.bool true) ∧ Below w.heap.size w w' := by
 intro n
 induction n with
 | zero =>
  intro B w cd cd2 p hn
  cases p with
  | mk l i k s => simp only [Den.mk.sizeOf_spec] at hn; omega
 | succ n ih =>
  intro B w cd cd2 p hn hd hd2 hB
  exact same29_step B w cd cd2 p hd hd2 hB (fun j W' k1 k2 hj hW' h1 h2 => ih B W' k1 k2 _ (by have := den_lt hj; omega) h1 h2 (Nat.le_trans hB hW'.size))
set_option maxHeartbeats 4000000 in
set_option maxRecDepth 100000 in
theorem size29_step (B : Nat) (w : World) (cd : List Value) (p : Den) (most : Nat) (hd : IsDen B w cd p) (hB : B ≤ w.heap.size) (hm1 : 1 ≤ most) (hm2 : most ≤ 100000)
  (hih : ∀ (j m : Nat) (W' : World) (k1 : List Value), j < p.kids.length → Below w.heap.size w W' → IsDen B W' k1 (denAt p.kids j) → 1 ≤ m → m ≤ 100000 →
   Calls Try.prog 29 #[.agg k1.toArray, .int .i64 (m : Int)] W' fun e w' => (∃ r : Nat, e = .returned (.int .i64 (r : Int)) ∧ 1 ≤ r ∧ r ≤ m) ∧ Below W'.heap.size W' w') :
  Calls Try.prog 29 #[.agg cd.toArray, .int .i64 (most : Int)] w fun e w' => (∃ r : Nat, e = .returned (.int .i64 (r : Int)) ∧ 1 ≤ r ∧ r ≤ most) ∧ Below w.heap.size w w' := by
 obtain ⟨ak, ck, rfl, _, _, _, hkl, bk, ok, hak, hkk⟩ := hd.form
 have HKK := Lib.hid hkk
 have HAK := Lib.hid hak
 have HIH := Lib.hid hih
 unfold LK at hkl
 obtain ⟨l, hl⟩ : ∃ x, p.lot = x := ⟨_, rfl⟩
 obtain ⟨i, hi⟩ : ∃ x, p.inn = x := ⟨_, rfl⟩
 obtain ⟨s, hs⟩ : ∃ x, p.sender = x := ⟨_, rfl⟩
 obtain ⟨nk, hnk⟩ : ∃ x, p.kids.length = x := ⟨_, rfl⟩
 rw [hl, hi, hs, hnk]
 rw [hnk] at HAK HKK HIH hkl
 clear hd hak hkk hih hl hi hs hnk
 go_enter Try.func29, Try.ntmps29
 go_upto_region 1 with fail
 refine wp_name (fun W1 hW1 => ?_)
 have HX1 : Hid (Box W1 w.heap.size #[.int .i64 l, .int .i64 i, .slice ak nk ck, .int .i64 s]) := Lib.hid (by rw [hW1]; exact Box.new w #[.int .i64 l, .int .i64 i, .slice ak nk ck, .int .i64 s] 31)
 have HW1 : Hid (Below w.heap.size w W1) := Lib.hid (by rw [hW1]; exact box_below' w _)
 clear hW1
 go_wp2
 go_loopw [5, 6] (fun r' i' wr => ∃ (j r : Nat), j ≤ nk ∧ i' = .int .i64 j ∧ r' = .int .i64 r ∧ 1 ≤ r ∧ r ≤ most ∧ Below W1.heap.size W1 wr) (fun _ i' _ => nk - (intOf i').toNat)
 case atStart => exact ⟨0, 1, by omega, rfl, rfl, by omega, hm1, Below.refl _ _⟩
 case round =>
  obtain ⟨j, r, hj, rfl, rfl, hr1, hr2, hb1⟩ := hrel
  have HB1 := Lib.hid hb1
  have HBR : Hid (Below w.heap.size w wr) := Lib.hid (HW1.out.trans (hb1.mono HW1.out.size))
  have HXR := Lib.hid (HX1.out.ext hb1)
  have r4 := HXR.out.2
  clear hb1
  by_cases hlt : j < nk
  ·by_cases hrm : r < most
   ·obtain rfl : ak = some ⟨bk, ok, none⟩ := by rcases HAK.out with h | h; exact h; omega
    obtain ⟨hbk, cs, hcs, hds⟩ := HKK.out j hlt
    have HDS := Lib.hid hds
    have hbq : bk < B := hbk
    obtain ⟨aq, cq, hce, _⟩ := hds.form
    obtain ⟨y0, y1, y3, nq, hy0⟩ : ∃ y0 y1 y3 nq, cs = [.int .i64 y0, .int .i64 y1, .slice aq nq cq, .int .i64 y3] := ⟨_, _, _, _, hce⟩
    subst hy0
    have e0 := (HBR.out.cell (p := ⟨bk, ok + j * 4, none⟩) (by show bk < _; omega)).trans (hcs 0 _ rfl)
    have e1 := (HBR.out.cell (p := ⟨bk, ok + j * 4 + 1, none⟩) (by show bk < _; omega)).trans (hcs 1 _ rfl)
    have e2 := (HBR.out.cell (p := ⟨bk, ok + j * 4 + 2, none⟩) (by show bk < _; omega)).trans (hcs 2 _ rfl)
    have e3 := (HBR.out.cell (p := ⟨bk, ok + j * 4 + 3, none⟩) (by show bk < _; omega)).trans (hcs 3 _ rfl)
    have HCL := Lib.hid (HIH.out j (most - r) wr [.int .i64 y0, .int .i64 y1, .slice aq nq cq, .int .i64 y3] hlt HBR.out (IsDen.below HDS.out HBR.out hB) (by omega) (by omega))
    have hwm : IntKind.i64.wrap ((most : Int) - (r : Int)) = ((most - r : Nat) : Int) := by rw [IntWalk.i64_in _ (by omega)]; omega
    clear hce hcs hds
    go_wp2_with fail
    refine HCL.out.mono ?_
    rintro e w5 ⟨⟨r5, rfl, h51, h52⟩, hb5⟩
    have HBC5 := Lib.hid (HB1.out.trans (hb5.mono HB1.out.size))
    clear hb5 r4
    have h53 : r5 ≤ 100000 := by omega
    go_wp2
    go_roundw
    case rel => exact ⟨j + 1, r + r5, by omega, by go_num, by go_num, by omega, by omega, HBC5.out⟩
    case measure => simp [intOf]; omega
   ·obtain rfl : r = most := by omega
    go_wp2
    go_ret
    exact ⟨⟨r, rfl, hr1, Nat.le_refl _⟩, HBR.out⟩
  ·obtain rfl : j = nk := by omega
   go_wp2
   go_ret
   exact ⟨⟨r, rfl, hr1, hr2⟩, HBR.out⟩
/-- frankingref29.size -/
theorem size29_any : ∀ (n B : Nat) (w : World) (cd : List Value) (p : Den) (most : Nat), SizeOf.sizeOf p ≤ n → IsDen B w cd p → B ≤ w.heap.size → 1 ≤ most → most ≤ 100000 →
  Calls Try.prog 29 #[.agg cd.toArray, .int .i64 (most : Int)] w fun e w' => (∃ r : Nat, e = .returned (.int .i64 (r : Int)) ∧ 1 ≤ r ∧ r ≤ most) ∧ Below w.heap.size w w' := by
 intro n
 induction n with
 | zero =>
  intro B w cd p most hn
  cases p with
  | mk l i k s => simp only [Den.mk.sizeOf_spec] at hn; omega
 | succ n ih =>
  intro B w cd p most hn hd hB h1 h2
  exact size29_step B w cd p most hd hB h1 h2 (fun j m W' k1 hj hW' h1 h2 h3 => ih B W' k1 _ m (by have := den_lt hj; omega) h1 (Nat.le_trans hB hW'.size) h2 h3)
end Go.Proofs.Yteiaeaciaglmgaa
