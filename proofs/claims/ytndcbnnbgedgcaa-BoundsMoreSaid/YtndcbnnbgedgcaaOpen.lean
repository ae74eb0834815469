/-
  What came in, opened: lists of numbers, lots, flows.
-/
import Derived.Test.YtndcbnnbgedgcaaLib
import Derived.Test.YtndcbnnbgedgcaaRows
import Derived.ProofKit
import Derived.SizedLaws
import Derived.Deep.Slices
import Derived.Deep.Strs
set_option linter.unusedVariables false
set_option linter.unusedSimpArgs false
namespace Go.Proofs.Ytndcbnnbgedgcaa
open Go.ChangeShapes Go.WideShapes Go.ChangeAt Go.RowKit Go.Deep

theorem cell_spot {w : World} {a : Addr} {v : Value} (h : w.cell? a = some v) : a.spot = none ∧ a.block < w.heap.size := by
  unfold World.cell? at h
  split at h
  · rename_i c t x hc
    refine ⟨?_, (Array.getElem?_eq_some_iff.1 hc).1⟩
    cases hs : a.spot with
    | none => rfl
    | some n => simp [hs] at h
  · cases h

theorem I64.of_wf {n : Int} (h : (Lit.int .i64 n).wf = true) : I64 n := by
  simp [Lit.wf, IntKind.min, IntKind.max, IntKind.signed, IntKind.bits] at h
  unfold I64
  omega

variable {H : Type} {enc : TypeId × Value → H} {w : World}

theorem open_IsInts {fuel : Nat} {v : Value} {x : DataW H × List MemPlace} (h : DataW.trod enc Try.prog w 0 (fun _ => true) true fuel 25 [v] = some x)
    (hsz : ∀ n ∈ x.1.weights Try.prog 25, n ≤ reachBytes) : ∃ zs, IsInts w.heap.size w v zs := by
  have hb : Try.prog.bytesOf 3 = 8 := by kernel_rfl
  rcases open_ints Try.underlying25 Try.underlying3 (by kernel_rfl) h with ⟨hv, rfl⟩ | ⟨a, len, cap, zs, hv, _, hl, hm, hzl, rfl, hcell, hwf⟩
  · cases hv
    exact ⟨[], 0, 0, 0, ⟨none, rfl, Nat.le_refl _, by omega, Or.inr rfl⟩, by simp, by simp, fun j hj => by simp at hj⟩
  · cases hv
    simp only [if_true] at hzl
    have h8 := hsz (((lits .i64 (zs.take len) : List (DataW H)).length + (lits .i64 (zs.drop len) : List (DataW H)).length) * Try.prog.bytesOf 3) (by simp only [DataW.weights, Try.underlying25]; exact List.mem_cons_self)
    rw [hb] at h8
    have hlt : (lits .i64 (zs.take len) : List (DataW H)).length = len := by simp [lits]; omega
    have hld : (lits .i64 (zs.drop len) : List (DataW H)).length = cap - len := by simp [lits]; omega
    rw [hlt, hld] at h8
    unfold reachBytes at h8
    have hn : (zs.take len).length = len := by simp; omega
    refine ⟨zs.take len, a.block, a.off, cap, ⟨some a, by rw [hn], by omega, by unfold maxLen at hm; omega, ?_⟩, by omega, fun y hy => I64.of_wf (hwf y (List.mem_of_mem_take hy)), fun j hj => ?_⟩
    · by_cases h0 : len = 0
      · exact Or.inr (by omega)
      · have := (cell_spot (hcell 0 (by omega))).1
        left
        obtain ⟨b, o, sp⟩ := a
        simp [Addr.add] at this
        rw [this]
    · rw [hn] at hj
      have hc := hcell j (by omega)
      have h0 := (cell_spot (hcell 0 (by omega))).1
      have hb2 := (cell_spot hc).2
      obtain ⟨b, o, sp⟩ := a
      simp [Addr.add] at h0
      subst h0
      rw [add_plain] at hc hb2
      refine ⟨hb2, ?_⟩
      rw [hc]
      unfold nth
      rw [List.getD_eq_getElem?_getD, List.getD_eq_getElem?_getD, List.getElem?_take, if_pos hj]

theorem weightsAll_mem {P : Program} {e : TypeId} {d : DataW H} {n : Nat} : ∀ {l : List (DataW H)}, d ∈ l → n ∈ d.weights P e → n ∈ DataW.weightsAll P e l
  | [], h, _ => by cases h
  | x :: r, h, hn => by
    simp only [DataW.weightsAll, List.mem_append]
    rcases List.mem_cons.1 h with rfl | h
    · exact Or.inl hn
    · exact Or.inr (weightsAll_mem h hn)

set_option maxRecDepth 100000 in
theorem open_IsLot {fuel : Nat} {c : List Value} {x : DataW H × List MemPlace} (h : DataW.trod enc Try.prog w 0 (fun _ => true) true fuel 45 c = some x)
    (hsz : ∀ n ∈ x.1.weights Try.prog 45, n ≤ reachBytes) : ∃ vi vk vp d, c = [vi, vk, vp] ∧ IsLot w.heap.size w vi vk vp d := by
  obtain ⟨y0, y1, y2, n, rfl, hl, h0, h1, h2⟩ := trod_struct3 Try.underlying45 h
  have hC : Try.prog.cellsOf 45 = 3 := by kernel_rfl
  have k0 : Try.prog.cellsOf 25 = 1 := by kernel_rfl
  have k1 : Try.prog.cellsOf 4 = 1 := by kernel_rfl
  rw [hC] at hl
  match c, hl with
  | [vi, vk, vp], _ =>
    simp only [k0, k1, List.drop_zero, List.drop_succ_cons, List.take_succ_cons, List.take_zero] at h0 h1 h2
    obtain ⟨kb, hk, hy⟩ := DataW.trod_bool Try.underlying4 h1
    cases hk
    have hw : ∀ n ∈ DataW.weightsEach Try.prog [25, 4, 25] [y0.1, y1.1, y2.1], n ≤ reachBytes := by
      intro n hn
      refine hsz n ?_
      simp only [DataW.weights, Try.underlying45]
      exact hn
    obtain ⟨z0, i0⟩ := open_IsInts h0 (fun n hn => hw n (DataW.weights_mem_each (j := 0) (t := 25) rfl rfl n hn))
    obtain ⟨z2, i2⟩ := open_IsInts h2 (fun n hn => hw n (DataW.weights_mem_each (j := 2) (t := 25) rfl rfl n hn))
    exact ⟨vi, _, vp, ⟨z0, kb, z2⟩, rfl, i0, rfl, i2⟩

theorem open_IsLots {fuel : Nat} {v : Value} {x : DataW H × List MemPlace} (h : DataW.trod enc Try.prog w 0 (fun _ => true) true fuel 22 [v] = some x)
    (hsz : ∀ n ∈ x.1.weights Try.prog 22, n ≤ reachBytes) : ∃ ls, IsLots w.heap.size w v ls ∧ ls.length ≤ 2513169434843 := by
  have hC : Try.prog.cellsOf 45 = 3 := by kernel_rfl
  have hb : Try.prog.bytesOf 45 = 56 := by kernel_rfl
  rcases open_slice Try.underlying22 h with ⟨hv, rfl⟩ | ⟨a, len, cap, m, n, D, Pl, hv, _, hl, hm, hmm, rfl, hx⟩
  · cases hv
    exact ⟨[], ⟨0, 0, 0, ⟨none, rfl, Nat.le_refl _, by omega, Or.inr rfl⟩, by simp, fun j hj => by simp at hj⟩, by simp⟩
  · cases hv
    simp only [if_true] at hmm
    subst hmm
    have h8 := hsz ((((List.range len).map D).length + ((List.range (m - len)).map fun j => D (len + j)).length) * Try.prog.bytesOf 45) (by simp only [DataW.weights, Try.underlying22]; exact List.mem_cons_self)
    rw [hb] at h8
    simp only [List.length_map, List.length_range] at h8
    unfold reachBytes at h8
    have hel : ∀ i, i < len → ∃ vi vk vp d, (w.cells? 0 (a.add (i * 3)) 3 = some [vi, vk, vp]) ∧ IsLot w.heap.size w vi vk vp d := by
      intro i hi
      obtain ⟨cs', h1, h2⟩ := hx i (by omega)
      rw [hC] at h1
      obtain ⟨vi, vk, vp, d, rfl, hd⟩ := open_IsLot h2 (fun n hn => hsz n (by
        simp only [DataW.weights, Try.underlying22]
        exact List.mem_cons_of_mem _ (List.mem_append_left _ (weightsAll_mem (List.mem_map.2 ⟨i, List.mem_range.2 hi, rfl⟩) hn))))
      exact ⟨vi, vk, vp, d, h1, hd⟩
    obtain ⟨L, hL⟩ := choose_lt (α := Lot) (p := fun i d => ∃ vi vk vp, (w.cells? 0 (a.add (i * 3)) 3 = some [vi, vk, vp]) ∧ IsLot w.heap.size w vi vk vp d) (fun i hi => by
      obtain ⟨vi, vk, vp, d, h1, h2⟩ := hel i hi
      exact ⟨d, vi, vk, vp, h1, h2⟩)
    have hn : ((List.range len).map L).length = len := by simp
    have hsp : 0 < len → a.spot = none := by
      intro h0
      obtain ⟨vi, vk, vp, d, h1, _⟩ := hel 0 h0
      have := (World.cells?_some h1).2.2 0 (by omega)
      simp [Addr.add] at this
      exact (cell_spot this).1
    refine ⟨(List.range len).map L, ⟨a.block, a.off, m, ⟨some a, by rw [hn], by omega, by unfold maxLen at hm; omega, ?_⟩, by omega, fun j hj => ?_⟩, by omega⟩
    · by_cases h0 : len = 0
      · exact Or.inr (by omega)
      · left
        have := hsp (by omega)
        obtain ⟨b, o, sp⟩ := a
        simp at this
        rw [this]
    · rw [hn] at hj
      have h0 := hsp (by omega)
      obtain ⟨b, o, sp⟩ := a
      simp at h0
      subst h0
      obtain ⟨vi, vk, vp, h1, h2⟩ := hL j hj
      have hat : lotAt ((List.range len).map L) j = L j := by
        unfold lotAt
        rw [List.getD_eq_getElem?_getD]
        simp [hj]
      have hc := (World.cells?_some h1).2.2
      rw [add_plain] at hc
      have c0 := hc 0 (by omega)
      have c1 := hc 1 (by omega)
      have c2 := hc 2 (by omega)
      rw [add_plain] at c0 c1 c2
      rw [hat]
      exact ⟨vi, vk, vp, ⟨(cell_spot c0).2, c0⟩, ⟨(cell_spot c1).2, c1⟩, ⟨(cell_spot c2).2, c2⟩, h2⟩

set_option maxRecDepth 100000 in
theorem open_IsFlow_le {r : Reach} {b0 : Nat} {v : Value} {d : DataW H} {p : List MemPlace} (hv : Value.okWide Try.prog w r b0 24 v) (h : DataW.Trod enc Try.prog w 0 (fun _ => true) true 24 v d p)
    (hsz : ∀ n ∈ d.weights Try.prog 24, n ≤ reachBytes) : ∃ vs vl f, v = .agg #[vs, vl] ∧ IsFlow w.heap.size w vs vl f ∧ f.lots.length ≤ 2513169434843 := by
  have hC : Try.prog.cellsOf 24 = 2 := by kernel_rfl
  have k0 : Try.prog.cellsOf 3 = 1 := by kernel_rfl
  have k1 : Try.prog.cellsOf 22 = 1 := by kernel_rfl
  obtain ⟨cs, rfl, hs⟩ := okWide_struct Try.underlying24 hv
  obtain ⟨fuel, hf⟩ := h
  obtain ⟨y0, y1, n, hx, hl, h0, h1⟩ := trod_struct2 Try.underlying24 hf
  rw [hC] at hs
  obtain ⟨l⟩ := cs
  match l, hs with
  | [vs, vl], _ =>
    simp only [Value.cells, k0, k1, List.drop_zero, List.drop_succ_cons, List.take_succ_cons, List.take_zero] at h0 h1
    simp only [Prod.mk.injEq] at hx
    obtain ⟨rfl, _⟩ := hx
    obtain ⟨s, he, hy, hwf⟩ := DataW.trod_int Try.underlying3 h0
    cases he
    obtain ⟨ls, hls, hle⟩ := open_IsLots h1 (fun n hn => hsz n (by
      simp only [DataW.weights, Try.underlying24]
      exact DataW.weights_mem_each (j := 1) (t := 22) rfl rfl n hn))
    exact ⟨_, vl, ⟨s, ls⟩, rfl, ⟨rfl, I64.of_wf hwf, hls⟩, hle⟩
set_option maxRecDepth 100000 in
theorem open_IsFlow {r : Reach} {b0 : Nat} {v : Value} {d : DataW H} {p : List MemPlace} (hv : Value.okWide Try.prog w r b0 24 v) (h : DataW.Trod enc Try.prog w 0 (fun _ => true) true 24 v d p)
    (hsz : ∀ n ∈ d.weights Try.prog 24, n ≤ reachBytes) : ∃ vs vl f, v = .agg #[vs, vl] ∧ IsFlow w.heap.size w vs vl f := by
  obtain ⟨vs, vl, f, h1, h2, _⟩ := open_IsFlow_le hv h hsz
  exact ⟨vs, vl, f, h1, h2⟩

theorem open_IsInts' {v : Value} {d : DataW H} {p : List MemPlace} (hcs : v.cells.toList = [v]) (h : DataW.Trod enc Try.prog w 0 (fun _ => true) true 25 v d p)
    (hsz : ∀ n ∈ d.weights Try.prog 25, n ≤ reachBytes) : ∃ zs, IsInts w.heap.size w v zs := by
  obtain ⟨fuel, hf⟩ := h
  rw [hcs] at hf
  exact open_IsInts hf hsz

end Go.Proofs.Ytndcbnnbgedgcaa
