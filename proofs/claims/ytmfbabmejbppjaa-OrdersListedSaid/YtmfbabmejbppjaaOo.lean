/-
  What came in, opened: lists of records of any kind; strings, numbers, names, wishes, orders (printed by tools/genoo.py).
-/
import Derived.Test.YtmfbabmejbppjaaOr12
import Derived.Test.YtmfbabmejbppjaaRows
import Derived.ProofKit
import Derived.SizedLaws
import Derived.Deep.Slices
import Derived.Deep.Strs
set_option linter.unusedVariables false
set_option linter.unusedSimpArgs false
namespace Go.Proofs.Ytmfbabmejbppjaa
open Go.ChangeShapes Go.WideShapes Go.ChangeAt Go.RowKit Go.Deep

theorem cell_spot {w : World} {a : Addr} {v : Value} (h : w.cell? a = some v) : a.spot = none ∧ a.block < w.heap.size := by
  unfold World.cell? at h
  split at h
  · rename_i c t x hc
    refine ⟨?_, (Array.getElem?_eq_some_iff.1 hc).1⟩
    cases hs : a.spot with
    | none => rfl
    | some n => simp [hs] at h
  · cases h
theorem I64.of_wf {n : Int} (h : (Lit.int .i64 n).wf = true) : I64 n := by
  simp [Lit.wf, IntKind.min, IntKind.max, IntKind.signed, IntKind.bits] at h
  unfold I64
  omega
variable {H : Type} {enc : TypeId × Value → H} {w : World}
theorem weightsAll_mem {P : Program} {e : TypeId} {d : DataW H} {n : Nat} : ∀ {l : List (DataW H)}, d ∈ l → n ∈ d.weights P e → n ∈ DataW.weightsAll P e l
  | [], h, _ => by cases h
  | x :: r, h, hn => by
    simp only [DataW.weightsAll, List.mem_append]
    rcases List.mem_cons.1 h with rfl | h
    · exact Or.inl hn
    · exact Or.inr (weightsAll_mem h hn)
theorem str_bound {H : Type} {d : DataW H} {s : ByteArray} (hd : d = .lit (.string s.data.toList)) (h : ∀ n ∈ d.weights Try.prog 9, n ≤ reachBytes) : s.size ≤ 140737488351232 := by
  subst hd
  have := h s.data.toList.length (by simp [DataW.weights])
  rw [Array.length_toList] at this
  unfold reachBytes at this
  exact this

/-- a list of records that came in -/
theorem open_recs {D : Type} {k : Nat} {R : Nat → World → List Value → D → Prop} {L bt : Nat} {d0 : D} {ty t : TypeId} (hR : RecK k R) (hk : 0 < k) (hu : Try.prog.underlying t = some (.slice ty)) (hC : Try.prog.cellsOf ty = k) (hb : Try.prog.bytesOf ty = bt) (hL : 140737488351232 < (L + 1) * bt)
    (ho : ∀ {fuel c x}, DataW.trod enc Try.prog w 0 (fun _ => true) true fuel ty c = some x → (∀ n ∈ x.1.weights Try.prog ty, n ≤ reachBytes) → ∃ d, R w.heap.size w c d)
    {fuel : Nat} {v : Value} {x : DataW H × List MemPlace} (h : DataW.trod enc Try.prog w 0 (fun _ => true) true fuel t [v] = some x) (hsz : ∀ n ∈ x.1.weights Try.prog t, n ≤ reachBytes) : ∃ xs, IsRecs k R L d0 w.heap.size w v xs := by
  rcases open_slice hu h with ⟨hv, rfl⟩ | ⟨a, len, cap, m, n, D', Pl, hv, _, hl, hm, hmm, rfl, hx⟩
  · cases hv
    exact ⟨[], IsRecs.nil⟩
  · cases hv
    simp only [if_true] at hmm
    subst hmm
    have h8 := hsz ((((List.range len).map D').length + ((List.range (m - len)).map fun j => D' (len + j)).length) * Try.prog.bytesOf ty) (by simp only [DataW.weights, hu]; exact List.mem_cons_self)
    rw [hb] at h8
    simp only [List.length_map, List.length_range] at h8
    unfold reachBytes at h8
    have hbt : 0 < bt := by
      rcases Nat.eq_zero_or_pos bt with e | e
      · subst e; omega
      · exact e
    have hlL : len ≤ L := by
      refine Nat.le_of_not_lt fun hlt => ?_
      have h9 : (L + 1) * bt ≤ (len + (m - len)) * bt := Nat.mul_le_mul_right _ (by omega)
      omega
    have hel : ∀ i, i < len → ∃ (d : D) (cs : List Value), (w.cells? 0 (a.add (i * k)) k = some cs) ∧ R w.heap.size w cs d := by
      intro i hi
      obtain ⟨cs', h1, h2⟩ := hx i (by omega)
      rw [hC] at h1
      obtain ⟨d, hd⟩ := ho h2 (fun n hn => hsz n (by
        simp only [DataW.weights, hu]
        exact List.mem_cons_of_mem _ (List.mem_append_left _ (weightsAll_mem (List.mem_map.2 ⟨i, List.mem_range.2 hi, rfl⟩) hn))))
      exact ⟨d, cs', h1, hd⟩
    haveI : Inhabited D := ⟨d0⟩
    obtain ⟨F, hF⟩ := choose_lt (α := D) (p := fun i d => ∃ cs, (w.cells? 0 (a.add (i * k)) k = some cs) ∧ R w.heap.size w cs d) (fun i hi => hel i hi)
    have hn : ((List.range len).map F).length = len := by simp
    have hsp : 0 < len → a.spot = none := by
      intro h0
      obtain ⟨d, cs, h1, _⟩ := hel 0 h0
      obtain ⟨_, h3, h2⟩ := World.cells?_some h1
      have h4 := h2 0 hk
      rw [List.getElem?_eq_getElem (by omega)] at h4
      simp [Addr.add] at h4
      exact (cell_spot h4).1
    refine ⟨(List.range len).map F, a.block, a.off, m, ⟨some a, by rw [hn], by omega, by unfold maxLen at hm; omega, ?_⟩, by omega, fun j hj => ?_⟩
    · by_cases h0 : len = 0
      · exact Or.inr (by omega)
      · left
        have := hsp (by omega)
        obtain ⟨b, o, sp⟩ := a
        simp at this
        rw [this]
    · rw [hn] at hj
      have h0 := hsp (by omega)
      obtain ⟨b, o, sp⟩ := a
      simp at h0
      subst h0
      obtain ⟨cs, h1, h2⟩ := hF j hj
      have hat : ((List.range len).map F).getD j d0 = F j := by
        rw [List.getD_eq_getElem?_getD]
        simp [hj]
      obtain ⟨_, h3, hc⟩ := World.cells?_some h1
      rw [add_plain] at hc
      rw [hat]
      refine ⟨cs, fun q u hq => ?_, h2⟩
      have hql : q < k := by have := (List.getElem?_eq_some_iff.1 hq).1; omega
      have h5 := hc q hql
      rw [add_plain, hq] at h5
      exact ⟨(cell_spot h5).2, h5⟩

theorem open_str1 {fuel : Nat} {c : List Value} {x : DataW H × List MemPlace} (h : DataW.trod enc Try.prog w 0 (fun _ => true) true fuel 9 c = some x)
    (hsz : ∀ n ∈ x.1.weights Try.prog 9, n ≤ reachBytes) : ∃ d, strR w.heap.size w c d := by
  obtain ⟨s, e1, hy, _⟩ := DataW.trod_string Try.underlying9 h
  have hb := str_bound (s := s) (d := x.1) (by rw [hy]) hsz
  exact ⟨s.data.toList, e1, by rw [Array.length_toList]; exact hb⟩
theorem open_strs0 {fuel : Nat} {v : Value} {x : DataW H × List MemPlace} (h : DataW.trod enc Try.prog w 0 (fun _ => true) true fuel 22 [v] = some x)
    (hsz : ∀ n ∈ x.1.weights Try.prog 22, n ≤ reachBytes) : ∃ xs, IsStrs w.heap.size w v xs :=
  open_recs strK (by decide) Try.underlying22 (by kernel_rfl) (by kernel_rfl) (bt := 16) (by decide) (fun h hs => open_str1 h hs) h hsz
def intR (B : Nat) (w : World) (c : List Value) (x : Int) : Prop := c = [.int .i64 x] ∧ I64 x
theorem intK : RecK 1 intR := ⟨fun h => by rw [h.1]; rfl, fun h u hu => by rw [h.1] at hu; obtain rfl := List.mem_singleton.1 hu; rfl, fun h _ _ => h, fun h _ => h⟩
theorem open_ints0 {fuel : Nat} {v : Value} {x : DataW H × List MemPlace} (h : DataW.trod enc Try.prog w 0 (fun _ => true) true fuel 23 [v] = some x)
    (hsz : ∀ n ∈ x.1.weights Try.prog 23, n ≤ reachBytes) : ∃ xs, IsInts w.heap.size w v xs := by
  obtain ⟨xs, b, off, cap, h1, h2, h3⟩ := open_recs (L := 17592186043904) (d0 := (0 : Int)) intK (by decide) Try.underlying23 (by kernel_rfl) (by kernel_rfl) (bt := 8) (by decide) (fun h hs => by
    obtain ⟨s, he, hy, hwf⟩ := DataW.trod_int Try.underlying3 h
    exact ⟨s, he, I64.of_wf hwf⟩) h hsz
  refine ⟨xs, b, off, cap, h1, h2, fun x hx => ?_, fun j hj => ?_⟩
  · obtain ⟨j, hj, rfl⟩ := List.getElem_of_mem hx
    obtain ⟨c, _, _, h5⟩ := h3 j hj
    rw [List.getD_eq_getElem?_getD, List.getElem?_eq_getElem hj] at h5
    exact h5
  · obtain ⟨c, h4, h5, _⟩ := h3 j hj
    have := h4 0 (.int .i64 (xs.getD j 0)) (by rw [h5]; rfl)
    rw [Nat.mul_one, Nat.add_zero] at this
    exact this
set_option maxRecDepth 100000 in
theorem open_wishC {fuel : Nat} {c : List Value} {x : DataW H × List MemPlace} (h : DataW.trod enc Try.prog w 0 (fun _ => true) true fuel 41 c = some x)
    (hsz : ∀ n ∈ x.1.weights Try.prog 41, n ≤ reachBytes) : ∃ d, wishR w.heap.size w c d := by
  obtain ⟨xs, n, _, rfl, hl, hlen, hf⟩ := DataW.trod_struct Try.underlying41 h
  have hC : Try.prog.cellsOf 41 = 11 := by kernel_rfl
  have ki : Try.prog.cellsOf 3 = 1 := by kernel_rfl
  have ks : Try.prog.cellsOf 9 = 1 := by kernel_rfl
  have kb : Try.prog.cellsOf 4 = 1 := by kernel_rfl
  have kl : Try.prog.cellsOf 22 = 1 := by kernel_rfl
  have kj : Try.prog.cellsOf 23 = 1 := by kernel_rfl
  rw [hC] at hl
  match xs, hlen, c, hl with
  | [y0, y1, y2, y3, y4, y5, y6, y7, y8, y9, y10], _, [v0, v1, v2, v3, v4, v5, v6, v7, v8, v9, v10], _ =>
    have h0 := hf 0 _ rfl
    have h1 := hf 1 _ rfl
    have h2 := hf 2 _ rfl
    have h3 := hf 3 _ rfl
    have h4 := hf 4 _ rfl
    have h5 := hf 5 _ rfl
    have h6 := hf 6 _ rfl
    have h7 := hf 7 _ rfl
    have h8 := hf 8 _ rfl
    have h9 := hf 9 _ rfl
    have h10 := hf 10 _ rfl
    simp only [ki, ks, kb, kl, kj, List.drop_zero, List.drop_succ_cons, List.take_succ_cons, List.take_zero, List.getElem?_cons_zero, List.getElem?_cons_succ, Option.getD_some] at h0 h1 h2 h3 h4 h5 h6 h7 h8 h9 h10
    have hw : ∀ n ∈ DataW.weightsEach Try.prog [9, 9, 9, 9, 3, 3, 3, 3, 22, 4, 3] [y0.1, y1.1, y2.1, y3.1, y4.1, y5.1, y6.1, y7.1, y8.1, y9.1, y10.1], n ≤ reachBytes := by
      intro n hn
      refine hsz n ?_
      simp only [DataW.weights, Try.underlying41]
      exact hn
    obtain ⟨z0, e0, w0⟩ := open_str1 h0 (fun n hn => hw n (DataW.weights_mem_each (j := 0) (t := 9) rfl rfl n hn))
    obtain ⟨z1, e1, w1⟩ := open_str1 h1 (fun n hn => hw n (DataW.weights_mem_each (j := 1) (t := 9) rfl rfl n hn))
    obtain ⟨z2, e2, w2⟩ := open_str1 h2 (fun n hn => hw n (DataW.weights_mem_each (j := 2) (t := 9) rfl rfl n hn))
    obtain ⟨z3, e3, w3⟩ := open_str1 h3 (fun n hn => hw n (DataW.weights_mem_each (j := 3) (t := 9) rfl rfl n hn))
    obtain ⟨z4, e4, _, w4⟩ := DataW.trod_int Try.underlying3 h4
    obtain ⟨z5, e5, _, w5⟩ := DataW.trod_int Try.underlying3 h5
    obtain ⟨z6, e6, _, w6⟩ := DataW.trod_int Try.underlying3 h6
    obtain ⟨z7, e7, _, w7⟩ := DataW.trod_int Try.underlying3 h7
    obtain ⟨z8, w8⟩ := open_strs0 h8 (fun n hn => hw n (DataW.weights_mem_each (j := 8) (t := 22) rfl rfl n hn))
    obtain ⟨z9, e9, _⟩ := DataW.trod_bool Try.underlying4 h9
    obtain ⟨z10, e10, _, w10⟩ := DataW.trod_int Try.underlying3 h10
    cases e0
    cases e1
    cases e2
    cases e3
    cases e4
    cases e5
    cases e6
    cases e7
    cases e9
    cases e10
    exact ⟨⟨z0, z1, z2, z3, z4, z5, z6, z7, z8, z9, z10⟩, v8, rfl, w8, w0, w1, w2, w3, I64.of_wf w4, I64.of_wf w5, I64.of_wf w6, I64.of_wf w7, I64.of_wf w10⟩
set_option maxRecDepth 100000 in
theorem open_orderC {fuel : Nat} {c : List Value} {x : DataW H × List MemPlace} (h : DataW.trod enc Try.prog w 0 (fun _ => true) true fuel 38 c = some x)
    (hsz : ∀ n ∈ x.1.weights Try.prog 38, n ≤ reachBytes) : ∃ d, orderR w.heap.size w c d := by
  obtain ⟨xs, n, _, rfl, hl, hlen, hf⟩ := DataW.trod_struct Try.underlying38 h
  have hC : Try.prog.cellsOf 38 = 11 := by kernel_rfl
  have ki : Try.prog.cellsOf 3 = 1 := by kernel_rfl
  have ks : Try.prog.cellsOf 9 = 1 := by kernel_rfl
  have kb : Try.prog.cellsOf 4 = 1 := by kernel_rfl
  have kl : Try.prog.cellsOf 22 = 1 := by kernel_rfl
  have kj : Try.prog.cellsOf 23 = 1 := by kernel_rfl
  rw [hC] at hl
  match xs, hlen, c, hl with
  | [y0, y1, y2, y3, y4, y5, y6, y7, y8, y9, y10], _, [v0, v1, v2, v3, v4, v5, v6, v7, v8, v9, v10], _ =>
    have h0 := hf 0 _ rfl
    have h1 := hf 1 _ rfl
    have h2 := hf 2 _ rfl
    have h3 := hf 3 _ rfl
    have h4 := hf 4 _ rfl
    have h5 := hf 5 _ rfl
    have h6 := hf 6 _ rfl
    have h7 := hf 7 _ rfl
    have h8 := hf 8 _ rfl
    have h9 := hf 9 _ rfl
    have h10 := hf 10 _ rfl
    simp only [ki, ks, kb, kl, kj, List.drop_zero, List.drop_succ_cons, List.take_succ_cons, List.take_zero, List.getElem?_cons_zero, List.getElem?_cons_succ, Option.getD_some] at h0 h1 h2 h3 h4 h5 h6 h7 h8 h9 h10
    have hw : ∀ n ∈ DataW.weightsEach Try.prog [3, 3, 3, 3, 3, 3, 3, 3, 23, 4, 3] [y0.1, y1.1, y2.1, y3.1, y4.1, y5.1, y6.1, y7.1, y8.1, y9.1, y10.1], n ≤ reachBytes := by
      intro n hn
      refine hsz n ?_
      simp only [DataW.weights, Try.underlying38]
      exact hn
    obtain ⟨z0, e0, _, w0⟩ := DataW.trod_int Try.underlying3 h0
    obtain ⟨z1, e1, _, w1⟩ := DataW.trod_int Try.underlying3 h1
    obtain ⟨z2, e2, _, w2⟩ := DataW.trod_int Try.underlying3 h2
    obtain ⟨z3, e3, _, w3⟩ := DataW.trod_int Try.underlying3 h3
    obtain ⟨z4, e4, _, w4⟩ := DataW.trod_int Try.underlying3 h4
    obtain ⟨z5, e5, _, w5⟩ := DataW.trod_int Try.underlying3 h5
    obtain ⟨z6, e6, _, w6⟩ := DataW.trod_int Try.underlying3 h6
    obtain ⟨z7, e7, _, w7⟩ := DataW.trod_int Try.underlying3 h7
    obtain ⟨z8, w8⟩ := open_ints0 h8 (fun n hn => hw n (DataW.weights_mem_each (j := 8) (t := 23) rfl rfl n hn))
    obtain ⟨z9, e9, _⟩ := DataW.trod_bool Try.underlying4 h9
    obtain ⟨z10, e10, _, w10⟩ := DataW.trod_int Try.underlying3 h10
    cases e0
    cases e1
    cases e2
    cases e3
    cases e4
    cases e5
    cases e6
    cases e7
    cases e9
    cases e10
    exact ⟨⟨z0, z1, z2, z3, z4, z5, z6, z7, z8, z9, z10⟩, v8, rfl, w8, I64.of_wf w0, I64.of_wf w1, I64.of_wf w2, I64.of_wf w3, I64.of_wf w4, I64.of_wf w5, I64.of_wf w6, I64.of_wf w7, I64.of_wf w10⟩
set_option maxRecDepth 100000 in
theorem open_namesC {fuel : Nat} {c : List Value} {x : DataW H × List MemPlace} (h : DataW.trod enc Try.prog w 0 (fun _ => true) true fuel 25 c = some x)
    (hsz : ∀ n ∈ x.1.weights Try.prog 25, n ≤ reachBytes) : ∃ v n, c = [v.o, v.p, v.c, v.h] ∧ IsNames w.heap.size w v n := by
  obtain ⟨xs, n, _, rfl, hl, hlen, hf⟩ := DataW.trod_struct Try.underlying25 h
  have hC : Try.prog.cellsOf 25 = 4 := by kernel_rfl
  have ki : Try.prog.cellsOf 3 = 1 := by kernel_rfl
  have ks : Try.prog.cellsOf 9 = 1 := by kernel_rfl
  have kb : Try.prog.cellsOf 4 = 1 := by kernel_rfl
  have kl : Try.prog.cellsOf 22 = 1 := by kernel_rfl
  have kj : Try.prog.cellsOf 23 = 1 := by kernel_rfl
  rw [hC] at hl
  match xs, hlen, c, hl with
  | [y0, y1, y2, y3], _, [v0, v1, v2, v3], _ =>
    have h0 := hf 0 _ rfl
    have h1 := hf 1 _ rfl
    have h2 := hf 2 _ rfl
    have h3 := hf 3 _ rfl
    simp only [ki, ks, kb, kl, kj, List.drop_zero, List.drop_succ_cons, List.take_succ_cons, List.take_zero, List.getElem?_cons_zero, List.getElem?_cons_succ, Option.getD_some] at h0 h1 h2 h3
    have hw : ∀ n ∈ DataW.weightsEach Try.prog [22, 22, 22, 23] [y0.1, y1.1, y2.1, y3.1], n ≤ reachBytes := by
      intro n hn
      refine hsz n ?_
      simp only [DataW.weights, Try.underlying25]
      exact hn
    obtain ⟨z0, w0⟩ := open_strs0 h0 (fun n hn => hw n (DataW.weights_mem_each (j := 0) (t := 22) rfl rfl n hn))
    obtain ⟨z1, w1⟩ := open_strs0 h1 (fun n hn => hw n (DataW.weights_mem_each (j := 1) (t := 22) rfl rfl n hn))
    obtain ⟨z2, w2⟩ := open_strs0 h2 (fun n hn => hw n (DataW.weights_mem_each (j := 2) (t := 22) rfl rfl n hn))
    obtain ⟨z3, w3⟩ := open_ints0 h3 (fun n hn => hw n (DataW.weights_mem_each (j := 3) (t := 23) rfl rfl n hn))
    exact ⟨⟨v0, v1, v2, v3⟩, ⟨z0, z1, z2, z3⟩, rfl, w0, w1, w2, w3⟩
theorem open_wishes0 {fuel : Nat} {v : Value} {x : DataW H × List MemPlace} (h : DataW.trod enc Try.prog w 0 (fun _ => true) true fuel 26 [v] = some x)
    (hsz : ∀ n ∈ x.1.weights Try.prog 26, n ≤ reachBytes) : ∃ xs, IsWishes w.heap.size w v xs :=
  open_recs wishK (by decide) Try.underlying26 (by kernel_rfl) (by kernel_rfl) (bt := 136) (by decide) (fun h hs => open_wishC h hs) h hsz

set_option maxRecDepth 100000 in
theorem open_IsNames {r : Reach} {b0 : Nat} {v : Value} {d : DataW H} {p : List MemPlace} (hv : Value.okWide Try.prog w r b0 25 v) (h : DataW.Trod enc Try.prog w 0 (fun _ => true) true 25 v d p)
    (hsz : ∀ n ∈ d.weights Try.prog 25, n ≤ reachBytes) : ∃ vn n, v = NamesV.agg vn ∧ IsNames w.heap.size w vn n := by
  obtain ⟨cs, rfl, hs⟩ := okWide_struct Try.underlying25 hv
  obtain ⟨fuel, hf⟩ := h
  obtain ⟨vn, n, he, hn⟩ := open_namesC hf hsz
  refine ⟨vn, n, ?_, hn⟩
  obtain ⟨c⟩ := cs
  simp only [Value.cells] at he
  subst he
  rfl
set_option maxRecDepth 100000 in
theorem open_IsWish {r : Reach} {b0 : Nat} {v : Value} {d : DataW H} {p : List MemPlace} (hv : Value.okWide Try.prog w r b0 41 v) (h : DataW.Trod enc Try.prog w 0 (fun _ => true) true 41 v d p)
    (hsz : ∀ n ∈ d.weights Try.prog 41, n ≤ reachBytes) : ∃ va x, v = wishV va x ∧ IsStrs w.heap.size w va x.against ∧ okW x := by
  obtain ⟨cs, rfl, hs⟩ := okWide_struct Try.underlying41 hv
  obtain ⟨fuel, hf⟩ := h
  obtain ⟨x, va, he, h1, h2⟩ := open_wishC hf hsz
  refine ⟨va, x, ?_, h1, h2⟩
  obtain ⟨c⟩ := cs
  simp only [Value.cells] at he
  subst he
  rfl
set_option maxRecDepth 100000 in
theorem open_IsOrder {r : Reach} {b0 : Nat} {v : Value} {d : DataW H} {p : List MemPlace} (hv : Value.okWide Try.prog w r b0 38 v) (h : DataW.Trod enc Try.prog w 0 (fun _ => true) true 38 v d p)
    (hsz : ∀ n ∈ d.weights Try.prog 38, n ≤ reachBytes) : ∃ va x, v = orderV va x ∧ IsInts w.heap.size w va x.against ∧ okO x := by
  obtain ⟨cs, rfl, hs⟩ := okWide_struct Try.underlying38 hv
  obtain ⟨fuel, hf⟩ := h
  obtain ⟨x, va, he, h1, h2⟩ := open_orderC hf hsz
  refine ⟨va, x, ?_, h1, h2⟩
  obtain ⟨c⟩ := cs
  simp only [Value.cells] at he
  subst he
  rfl
theorem open_IsWishes {v : Value} {d : DataW H} {p : List MemPlace} (hcs : v.cells.toList = [v]) (h : DataW.Trod enc Try.prog w 0 (fun _ => true) true 26 v d p)
    (hsz : ∀ n ∈ d.weights Try.prog 26, n ≤ reachBytes) : ∃ l, IsWishes w.heap.size w v l := by
  obtain ⟨fuel, hf⟩ := h
  rw [hcs] at hf
  exact open_wishes0 hf hsz
end Go.Proofs.Ytmfbabmejbppjaa
