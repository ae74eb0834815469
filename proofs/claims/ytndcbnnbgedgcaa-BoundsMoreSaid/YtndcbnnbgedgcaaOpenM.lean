/-
  What came in, opened: lists of lists of numbers; a lot.
-/
import Derived.Test.YtndcbnnbgedgcaaOpen
import Derived.Test.YtndcbnnbgedgcaaOwn
set_option linter.unusedVariables false
set_option linter.unusedSimpArgs false
namespace Go.Proofs.Ytndcbnnbgedgcaa
open Go.ChangeShapes Go.WideShapes Go.ChangeAt Go.RowKit Go.Deep
variable {H : Type} {enc : TypeId × Value → H} {w : World}

theorem open_IsMat {fuel : Nat} {v : Value} {x : DataW H × List MemPlace} (h : DataW.trod enc Try.prog w 0 (fun _ => true) true fuel 48 [v] = some x)
    (hsz : ∀ n ∈ x.1.weights Try.prog 48, n ≤ reachBytes) : ∃ rows, IsMat w.heap.size w v rows := by
  have hC : Try.prog.cellsOf 25 = 1 := by kernel_rfl
  have hb : Try.prog.bytesOf 25 = 24 := by kernel_rfl
  rcases open_slice Try.underlying48 h with ⟨hv, rfl⟩ | ⟨a, len, cap, m, n, D, Pl, hv, _, hl, hm, hmm, rfl, hx⟩
  · cases hv
    exact ⟨[], 0, 0, 0, ⟨none, rfl, Nat.le_refl _, by omega, Or.inr rfl⟩, by simp, fun j hj => by simp at hj⟩
  · cases hv
    simp only [if_true] at hmm
    subst hmm
    have h8 := hsz ((((List.range len).map D).length + ((List.range (m - len)).map fun j => D (len + j)).length) * Try.prog.bytesOf 25) (by simp only [DataW.weights, Try.underlying48]; exact List.mem_cons_self)
    rw [hb] at h8
    simp only [List.length_map, List.length_range] at h8
    unfold reachBytes at h8
    have hel : ∀ i, i < len → ∃ r zs, (w.cells? 0 (a.add (i * 1)) 1 = some [r]) ∧ IsInts w.heap.size w r zs := by
      intro i hi
      obtain ⟨cs', h1, h2⟩ := hx i (by omega)
      rw [hC] at h1
      have hcl : cs'.length = 1 := (World.cells?_some h1).2.1
      match cs', hcl with
      | [r], _ =>
        obtain ⟨zs, hz⟩ := open_IsInts h2 (fun n hn => hsz n (by
          simp only [DataW.weights, Try.underlying48]
          exact List.mem_cons_of_mem _ (List.mem_append_left _ (weightsAll_mem (List.mem_map.2 ⟨i, List.mem_range.2 hi, rfl⟩) hn))))
        exact ⟨r, zs, h1, hz⟩
    obtain ⟨L, hL⟩ := choose_lt (α := List Int) (p := fun i zs => ∃ r, (w.cells? 0 (a.add (i * 1)) 1 = some [r]) ∧ IsInts w.heap.size w r zs) (fun i hi => by
      obtain ⟨r, zs, h1, h2⟩ := hel i hi
      exact ⟨zs, r, h1, h2⟩)
    have hn : ((List.range len).map L).length = len := by simp
    have hsp : 0 < len → a.spot = none := by
      intro h0
      obtain ⟨r, zs, h1, _⟩ := hel 0 h0
      have := (World.cells?_some h1).2.2 0 (by omega)
      simp [Addr.add] at this
      exact (cell_spot this).1
    refine ⟨(List.range len).map L, a.block, a.off, m, ⟨some a, by rw [hn], by omega, by unfold maxLen at hm; omega, ?_⟩, by omega, fun j hj => ?_⟩
    · by_cases h0 : len = 0
      · exact Or.inr (by omega)
      · left
        have := hsp (by omega)
        obtain ⟨b, o, sp⟩ := a
        simp at this
        rw [this]
    · rw [hn] at hj
      have h0 := hsp (by omega)
      obtain ⟨b, o, sp⟩ := a
      simp at h0
      subst h0
      obtain ⟨r, h1, h2⟩ := hL j hj
      have hat : rowAt ((List.range len).map L) j = L j := by
        unfold rowAt
        rw [List.getD_eq_getElem?_getD]
        simp [hj]
      have hc := (World.cells?_some h1).2.2
      rw [add_plain] at hc
      have c0 := hc 0 (by omega)
      rw [add_plain] at c0
      rw [hat]
      exact ⟨r, ⟨(cell_spot c0).2, by simpa using c0⟩, h2⟩

theorem open_IsMat' {v : Value} {d : DataW H} {p : List MemPlace} (hcs : v.cells.toList = [v]) (h : DataW.Trod enc Try.prog w 0 (fun _ => true) true 48 v d p)
    (hsz : ∀ n ∈ d.weights Try.prog 48, n ≤ reachBytes) : ∃ rows, IsMat w.heap.size w v rows := by
  obtain ⟨fuel, hf⟩ := h
  rw [hcs] at hf
  exact open_IsMat hf hsz

set_option maxRecDepth 100000 in
theorem open_IsLot' {r : Reach} {b0 : Nat} {v : Value} {d : DataW H} {p : List MemPlace} (hv : Value.okWide Try.prog w r b0 45 v) (h : DataW.Trod enc Try.prog w 0 (fun _ => true) true 45 v d p)
    (hsz : ∀ n ∈ d.weights Try.prog 45, n ≤ reachBytes) : ∃ vi vk vp l, v = .agg #[vi, vk, vp] ∧ IsLot w.heap.size w vi vk vp l := by
  obtain ⟨cs, rfl, hs⟩ := okWide_struct Try.underlying45 hv
  obtain ⟨fuel, hf⟩ := h
  obtain ⟨vi, vk, vp, l, he, hl⟩ := open_IsLot hf hsz
  refine ⟨vi, vk, vp, l, ?_, hl⟩
  obtain ⟨c⟩ := cs
  simp only [Value.cells] at he
  subst he
  rfl

end Go.Proofs.Ytndcbnnbgedgcaa
