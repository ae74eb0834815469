/-
  What came in, opened: a token, tokens.
-/
import Derived.Test.YtagjiljhbdjlfaaDoorLd
import Derived.Deep.Slices
import Derived.Deep.Strs
import Derived.Lib.SmallJoins
set_option linter.unusedVariables false
set_option linter.unusedSimpArgs false
namespace Go.Proofs.YtagjiljhbdjlfaaDoor
open Go.ChangeShapes Go.WideShapes Go.ChangeAt Go.RowKit Go.Deep

theorem cell_spot {w : World} {a : Addr} {v : Value} (h : w.cell? a = some v) : a.spot = none ∧ a.block < w.heap.size := by
  unfold World.cell? at h
  split at h
  · rename_i c t x hc
    refine ⟨?_, (Array.getElem?_eq_some_iff.1 hc).1⟩
    cases hs : a.spot with
    | none => rfl
    | some n => simp [hs] at h
  · cases h

theorem I64.of_wf {n : Int} (h : (Lit.int .i64 n).wf = true) : I64 n := by
  simp [Lit.wf, IntKind.min, IntKind.max, IntKind.signed, IntKind.bits] at h
  unfold I64
  omega

variable {H : Type} {enc : TypeId × Value → H} {w : World}

theorem weightsAll_mem {P : Program} {e : TypeId} {d : DataW H} {n : Nat} : ∀ {l : List (DataW H)}, d ∈ l → n ∈ d.weights P e → n ∈ DataW.weightsAll P e l
  | [], h, _ => by cases h
  | x :: r, h, hn => by
    simp only [DataW.weightsAll, List.mem_append]
    rcases List.mem_cons.1 h with rfl | h
    · exact Or.inl hn
    · exact Or.inr (weightsAll_mem h hn)

set_option maxRecDepth 100000 in
theorem open_tokC {fuel : Nat} {c : List Value} {x : DataW H × List MemPlace} (h : DataW.trod enc Tryd.prog w 0 (fun _ => true) true fuel 35 c = some x)
    (hsz : ∀ n ∈ x.1.weights Tryd.prog 35, n ≤ reachBytes) : ∃ t : Tok, c = tokC t ∧ okT t := by
  obtain ⟨y0, y1, y2, y3, n, rfl, hl, h0, h1, h2, h3⟩ := Go.Joins.trod_struct4 Tryd.underlying35 h
  have hC : Tryd.prog.cellsOf 35 = 4 := by kernel_rfl
  have k0 : Tryd.prog.cellsOf 3 = 1 := by kernel_rfl
  have k1 : Tryd.prog.cellsOf 9 = 1 := by kernel_rfl
  rw [hC] at hl
  match c, hl with
  | [va, vb, vc, vd], _ =>
    simp only [k0, k1, List.drop_zero, List.drop_succ_cons, List.take_succ_cons, List.take_zero] at h0 h1 h2 h3
    obtain ⟨a, e0, _, w0⟩ := DataW.trod_int Tryd.underlying3 h0
    obtain ⟨s, e1, hy, _⟩ := DataW.trod_string Tryd.underlying9 h1
    obtain ⟨b, e2, _, w2⟩ := DataW.trod_int Tryd.underlying3 h2
    obtain ⟨d, e3, _, w3⟩ := DataW.trod_int Tryd.underlying3 h3
    cases e0; cases e1; cases e2; cases e3
    have hw : ∀ n ∈ DataW.weightsEach Tryd.prog [3, 9, 3, 3] [y0.1, y1.1, y2.1, y3.1], n ≤ reachBytes := by
      intro n hn
      refine hsz n ?_
      simp only [DataW.weights, Tryd.underlying35]
      exact hn
    have hb := str_bound (s := s) (d := y1.1) (by rw [hy]) (fun n hn => hw n (DataW.weights_mem_each (j := 1) (t := 9) rfl rfl n hn))
    exact ⟨⟨a, s.data.toList, b, d⟩, rfl, I64.of_wf w0, by show s.data.toList.length ≤ _; rw [Array.length_toList]; exact hb, I64.of_wf w2, I64.of_wf w3⟩

theorem open_toks {fuel : Nat} {v : Value} {x : DataW H × List MemPlace} (h : DataW.trod enc Tryd.prog w 0 (fun _ => true) true fuel 23 [v] = some x)
    (hsz : ∀ n ∈ x.1.weights Tryd.prog 23, n ≤ reachBytes) : ∃ ts, IsToks w.heap.size w v ts := by
  have hC : Tryd.prog.cellsOf 35 = 4 := by kernel_rfl
  have hb : Tryd.prog.bytesOf 35 = 40 := by kernel_rfl
  rcases open_slice Tryd.underlying23 h with ⟨hv, rfl⟩ | ⟨a, len, cap, m, n, D, Pl, hv, _, hl, hm, hmm, rfl, hx⟩
  · cases hv
    exact ⟨[], IsToks.nil _ _⟩
  · cases hv
    simp only [if_true] at hmm
    subst hmm
    have h8 := hsz ((((List.range len).map D).length + ((List.range (m - len)).map fun j => D (len + j)).length) * Tryd.prog.bytesOf 35) (by simp only [DataW.weights, Tryd.underlying23]; exact List.mem_cons_self)
    rw [hb] at h8
    simp only [List.length_map, List.length_range] at h8
    unfold reachBytes at h8
    have hel : ∀ i, i < len → ∃ t : Tok, (w.cells? 0 (a.add (i * 4)) 4 = some (tokC t)) ∧ okT t := by
      intro i hi
      obtain ⟨cs', h1, h2⟩ := hx i (by omega)
      rw [hC] at h1
      obtain ⟨t, rfl, hd⟩ := open_tokC h2 (fun n hn => hsz n (by
        simp only [DataW.weights, Tryd.underlying23]
        exact List.mem_cons_of_mem _ (List.mem_append_left _ (weightsAll_mem (List.mem_map.2 ⟨i, List.mem_range.2 hi, rfl⟩) hn))))
      exact ⟨t, h1, hd⟩
    obtain ⟨L, hL⟩ := choose_lt (α := Tok) (p := fun i t => (w.cells? 0 (a.add (i * 4)) 4 = some (tokC t)) ∧ okT t) (fun i hi => hel i hi)
    have hn : ((List.range len).map L).length = len := by simp
    have hsp : 0 < len → a.spot = none := by
      intro h0
      obtain ⟨t, h1, _⟩ := hel 0 h0
      have := (World.cells?_some h1).2.2 0 (by simp [tokC])
      simp [Addr.add, tokC] at this
      exact (cell_spot this).1
    refine ⟨(List.range len).map L, a.block, a.off, m, ⟨some a, by rw [hn], by omega, by unfold maxLen at hm; omega, ?_⟩, by omega, ?_, fun j hj => ?_⟩
    · by_cases h0 : len = 0
      · exact Or.inr (by omega)
      · left
        have := hsp (by omega)
        obtain ⟨b, o, sp⟩ := a
        simp at this
        rw [this]
    · intro t ht
      obtain ⟨i, hi, rfl⟩ := List.mem_map.1 ht
      exact (hL i (List.mem_range.1 hi)).2
    · rw [hn] at hj
      have h0 := hsp (by omega)
      obtain ⟨b, o, sp⟩ := a
      simp at h0
      subst h0
      obtain ⟨h1, h2⟩ := hL j hj
      have hat : tokAt ((List.range len).map L) j = L j := by
        unfold tokAt
        rw [List.getD_eq_getElem?_getD]
        simp [hj]
      have hc := (World.cells?_some h1).2.2
      rw [add_plain] at hc
      have c0 := hc 0 (by simp [tokC])
      have c1 := hc 1 (by simp [tokC])
      have c2 := hc 2 (by simp [tokC])
      have c3 := hc 3 (by simp [tokC])
      rw [add_plain] at c0 c1 c2 c3
      rw [hat]
      exact ⟨⟨(cell_spot c0).2, c0⟩, ⟨(cell_spot c1).2, c1⟩, ⟨(cell_spot c2).2, c2⟩, ⟨(cell_spot c3).2, c3⟩⟩

set_option maxRecDepth 100000 in
theorem open_IsToks {r : Reach} {b0 : Nat} {v : Value} {d : DataW H} {p : List MemPlace} (hv : Value.okWide Tryd.prog w r b0 23 v) (h : DataW.Trod enc Tryd.prog w 0 (fun _ => true) true 23 v d p)
    (hsz : ∀ n ∈ d.weights Tryd.prog 23, n ≤ reachBytes) : ∃ ts, IsToks w.heap.size w v ts := by
  obtain ⟨fuel, hf⟩ := h
  obtain ⟨a, l, c, rfl⟩ := okWide_slice Tryd.underlying23 hv
  exact open_toks hf hsz
set_option maxRecDepth 100000 in
theorem open_IsTok {r : Reach} {b0 : Nat} {v : Value} {d : DataW H} {p : List MemPlace} (hv : Value.okWide Tryd.prog w r b0 35 v) (h : DataW.Trod enc Tryd.prog w 0 (fun _ => true) true 35 v d p)
    (hsz : ∀ n ∈ d.weights Tryd.prog 35, n ≤ reachBytes) : ∃ t : Tok, v = .agg (tokC t).toArray ∧ okT t := by
  obtain ⟨cs, rfl, hs⟩ := okWide_struct Tryd.underlying35 hv
  obtain ⟨fuel, hf⟩ := h
  obtain ⟨t, ht, ho⟩ := open_tokC hf hsz
  refine ⟨t, ?_, ho⟩
  obtain ⟨l⟩ := cs
  exact congrArg (fun l => Value.agg ⟨l⟩) ht
end Go.Proofs.YtagjiljhbdjlfaaDoor
