/- Layers App OpenM S31v F25v F25w S28 R28a MapIter S28b R28c R28d R28e RangeM B28a B28b B28c B28d B28e B28f B28g: the walks and the plain laws under the last text, merged and cut to what it uses; nothing is assumed. -/
import Derived.Maps.AppendAt
import Derived.Deep.AppendLies
import Derived.Deep.Slices
import Derived.Deep.RegionHeld3
import Derived.Maps.RangeRun
import Derived.Deep.RegionHeldLaw
import Derived.Deep.DrawnRows
import Derived.BigRegionIn
import Derived.StillTailTactics
import Derived.Laws.BitsAllLaws
import Derived.Laws.BitsLemmas
import Derived.Test.YthekefnocphcdaaGca

set_option linter.unusedVariables false

set_option linter.unusedSimpArgs false

namespace Go.Proofs.Ythekefnocphcdaa

open Go.RowKit

section

variable {P : Program} (w : World)

theorem run_append_nil_src (base : Nat) (t ty e : TypeId) (i : TypeInfo) (size : Nat) (ht : P.underlying t = some (.slice e)) (hi : P.info? e = some i)
    (v : Value) (n : Nat) (xs : List Value) (hown : w.ownsRow base e size v n xs) (c : Nat) : (Builtin.append_ #[t, t] ty #[v, .slice none 0 c]).run P w = .ok v w := by
  rcases hown.2 with ⟨rfl, rfl⟩ | ⟨g, cap, cur, rfl, _, _, hnc, _⟩
  · simp [Builtin.append_, run_underlying ht, sizeOf, typeInfo, hi, Builtin.lenOf, Builtin.firstCells]
  · simp [Builtin.append_, run_underlying ht, sizeOf, typeInfo, hi, Builtin.lenOf, Builtin.firstCells, hnc, storeCells]

/-- a source of an append: a slice whose m elements are the cells news -/
def Src (w : World) (size : Nat) (vx : Value) (m : Nat) (news : List Value) : Prop :=
  ∃ A c, vx = .slice A m c ∧ news.length = m * size ∧ (∀ j u, news[j]? = some u → ∃ ad, A = some ad ∧ w.cell? (ad.add j) = some u) ∧ ∀ u ∈ news, u.oneCell' = true

theorem run_append_gen (base : Nat) (t ty e : TypeId) (i : TypeInfo) (z : Value) (size bytes : Nat) (ht : P.underlying t = some (.slice e)) (hi : P.info? e = some i) (hz : i.zero = some z)
    (hsize : i.size = size) (hby : i.bytes = bytes) (hzs : z.cells.size = size) (hsz : 0 < size)
    (v : Value) (n : Nat) (xs : List Value) (hown : w.ownsRow base e size v n xs)
    (vx : Value) (m : Nat) (news : List Value) (hr : Src w size vx m news)
    (h63 : n + m ≤ maxLen) (hbytes : (n + m) * bytes ≤ 140737488355328) (hbase : base ≤ w.heap.size) :
    ∃ v' w', (Builtin.append_ #[t, t] ty #[v, vx]).run P w = .ok v' w' ∧ w'.ownsRow base e size v' (n + m) (xs ++ news) ∧ w.grownBy w' v.ownBlock ∧
      (v'.ownBlock = v.ownBlock ∨ v'.ownBlock = some w.heap.size) := by
  obtain ⟨A, c, rfl, hl, hc, h1⟩ := hr
  rcases A with _ | ad
  · have hn : news = [] := by
      rcases news with _ | ⟨u, r⟩
      · rfl
      · obtain ⟨ad, h, _⟩ := hc 0 u rfl
        cases h
    subst hn
    have hm : m = 0 := by
      rcases Nat.eq_zero_or_pos m with h | h
      · exact h
      · have := Nat.mul_pos h hsz
        simp only [List.length_nil] at hl
        omega
    subst hm
    exact ⟨v, w, run_append_nil_src w base t ty e i size ht hi v n xs hown c, by simpa using hown, World.grownBy.refl w _, .inl rfl⟩
  · have hcells : ∀ j u, news[j]? = some u → w.cell? (ad.add j) = some u := by
      intro j u hu
      obtain ⟨ad', h, hh⟩ := hc j u hu
      injection h with h
      subst h
      exact hh
    obtain ⟨v', w', hrun, h2, h3, _, h5⟩ := run_append_own_at (P := P) w base t ty e i z size bytes ht hi hz hsize hby hzs hsz v n xs hown ad m c news hl hcells h1 h63 hbytes hbase
    exact ⟨v', w', hrun, h2, h3, h5⟩

theorem wp_of_append {o : Oper} {a : Act} {K : Act → World → Prop} {Q : Exit → Act → World → Prop} {s x : Operand} {t : TypeId}
    (ho : o.op = .call { callee := .builtin .append, args := #[s, x], argTypes := #[t, t] }) {v vx v' : Value} {w' : World} (hs : a.eval s = v) (hx : a.eval x = vx)
    (hrun : (Builtin.append_ #[t, t] o.type #[v, vx]).run P w = .ok v' w') (h : K (a.put o.dst v') w') : o.wp P a w K Q := by
  unfold Oper.wp execOp
  simp only [ho, resolve, invoke, builtin, Sem.run_bind, Sem.run_pure, Result.andThen_ok, List.map_toArray, List.map_cons, List.map_nil, hs, hx, hrun]
  exact h

end

theorem IsInts.src {B : Nat} {w : World} {v : Value} {ys : List Int} (h : IsInts B w v ys) : Src w 1 v ys.length (ys.map (Value.int .i64)) := by
  obtain ⟨b, off, cap, ⟨ad, rfl, hcap, hmax, ha⟩, hly, hz, hc⟩ := h
  refine ⟨ad, cap, rfl, by simp, fun j u hj => ?_, fun u hu => ?_⟩
  · have hlt : j < ys.length := by
      have := (List.getElem?_eq_some_iff.1 hj).1
      simpa using this
    obtain rfl : ad = some ⟨b, off, none⟩ := by rcases ha with ha | ha; exact ha; omega
    have h1 := (hc j hlt).2
    rw [nth_eq_getElem hlt] at h1
    rw [List.getElem?_map, List.getElem?_eq_getElem hlt] at hj
    have e : (⟨b, off, none⟩ : Addr).add j = ⟨b, off + j, none⟩ := by unfold Addr.add; split <;> simp_all
    refine ⟨_, rfl, ?_⟩
    rw [e, h1]
    simpa using hj
  · obtain ⟨n, _, rfl⟩ := List.mem_map.1 hu
    rfl

theorem src_one {w : World} {g c : Nat} {u : Value} (hg : w.cell? ⟨g, 0, none⟩ = some u) (h1 : u.oneCell' = true) : Src w 1 (.slice (some ⟨g, 0, none⟩) 1 c) 1 [u] := by
  refine ⟨_, c, rfl, rfl, fun j u' hj => ?_, by simpa using h1⟩
  match j, hj with
  | 0, hj => simp at hj; subst hj; exact ⟨_, rfl, by simpa [Addr.add] using hg⟩

/-- append of numbers: the run -/
theorem run_append_ints {w : World} {B : Nat} {v vx : Value} {xs ys : List Int} {ty : TypeId} (hown : OwnInts B w v xs) (hs : Src w 1 vx ys.length (ys.map (Value.int .i64))) (hz : ∀ y ∈ ys, I64 y)
    (hlen : xs.length + ys.length ≤ 17592186043904) (hB : B ≤ w.heap.size) :
    ∃ v' w', (Builtin.append_ #[34, 34] ty #[v, vx]).run Try.prog w = .ok v' w' ∧ OwnInts B w' v' (xs ++ ys) ∧ w.grownBy w' v.ownBlock ∧ (v'.ownBlock = v.ownBlock ∨ v'.ownBlock = some w.heap.size) := by
  obtain ⟨i0, hi, hz0, hz1, hz2⟩ := info_parts int_info
  obtain ⟨v', w', h1, h2, h3, h4⟩ := run_append_gen (P := Try.prog) w B 34 ty 3 i0 (.int .i64 0) 1 8 Try.underlying34 hi hz0 hz1 hz2 rfl (by decide) v xs.length _ hown.1 vx ys.length _ hs (by unfold maxLen; omega) (by omega) hB
  refine ⟨v', w', h1, ⟨by simpa using h2, by simpa using hlen, fun y hy => ?_⟩, h3, h4⟩
  rcases List.mem_append.1 hy with hy | hy
  · exact hown.2.2 y hy
  · exact hz y hy

/-- append of numbers, at a list of operations -/
theorem append_intsA {ops : Array Oper} {rest : List Oper} {o : Oper} {a : Act} {w : World} {Q : Exit → Act → World → Prop} (hgd : o.guard = none) (s x : Operand)
    (ho : o.op = .call { callee := .builtin .append, args := #[s, x], argTypes := #[34, 34] })
    {B : Nat} {v vx : Value} {xs : List Int} (ys : List Int) (hs : a.eval s = v) (hown : OwnInts B w v xs) (hx : a.eval x = vx) (hsrc : Src w 1 vx ys.length (ys.map (Value.int .i64))) (hz : ∀ y ∈ ys, I64 y)
    (hlen : xs.length + ys.length ≤ 17592186043904) (hB : B ≤ w.heap.size)
    (h : ∀ v' w', OwnInts B w' v' (xs ++ ys) → w.grownBy w' v.ownBlock → (v'.ownBlock = v.ownBlock ∨ v'.ownBlock = some w.heap.size) → wpList Try.prog ops Q rest (a.put o.dst v') w') : wpList Try.prog ops Q (o :: rest) a w := by
  refine wpList_plain hgd fun K hK => ?_
  obtain ⟨v', w', h1, h2, h3, h4⟩ := run_append_ints (ty := o.type) hown hsrc hz hlen hB
  exact wp_of_append w ho hs hx h1 (hK _ _ (h v' w' h2 h3 h4))

theorem lot_info : (Try.prog.info? 39).map (fun i => (i.zero, i.size, i.bytes)) = some (some (.agg #[.slice none 0 0, .bool false, .slice none 0 0]), 3, 56) := by kernel_rfl

structure V3 where
  i : Value
  k : Value
  p : Value

instance : Inhabited V3 := ⟨⟨undef, undef, undef⟩⟩

def flat : List V3 → List Value
  | [] => []
  | c :: r => c.i :: c.k :: c.p :: flat r

def v3At (l : List V3) (j : Nat) : V3 := l.getD j default

theorem flat_len : ∀ l, (flat l).length = l.length * 3
  | [] => rfl
  | c :: r => by simp [flat, flat_len r]; omega

theorem flat_append : ∀ a b, flat (a ++ b) = flat a ++ flat b
  | [], _ => rfl
  | c :: r, b => by simp [flat, flat_append r b]

theorem v3At_left {a b : List V3} {j : Nat} (h : j < a.length) : v3At (a ++ b) j = v3At a j := by
  unfold v3At; rw [List.getD_eq_getElem?_getD, List.getD_eq_getElem?_getD, List.getElem?_append_left h]

theorem v3At_right {a b : List V3} {j : Nat} (h : a.length ≤ j) : v3At (a ++ b) j = v3At b (j - a.length) := by
  unfold v3At; rw [List.getD_eq_getElem?_getD, List.getD_eq_getElem?_getD, List.getElem?_append_right h]

theorem lotAt_left {a b : List Lot} {j : Nat} (h : j < a.length) : lotAt (a ++ b) j = lotAt a j := by
  unfold lotAt; rw [List.getD_eq_getElem?_getD, List.getD_eq_getElem?_getD, List.getElem?_append_left h]

theorem lotAt_right {a b : List Lot} {j : Nat} (h : a.length ≤ j) : lotAt (a ++ b) j = lotAt b (j - a.length) := by
  unfold lotAt; rw [List.getD_eq_getElem?_getD, List.getD_eq_getElem?_getD, List.getElem?_append_right h]

theorem flat_get : ∀ (l : List V3) (j : Nat), j < l.length → (flat l)[j * 3]? = some (v3At l j).i ∧ (flat l)[j * 3 + 1]? = some (v3At l j).k ∧ (flat l)[j * 3 + 2]? = some (v3At l j).p
  | c :: r, 0, _ => by simp [flat, v3At]
  | c :: r, j + 1, h => by
    have ih := flat_get r j (by simpa using h)
    have e : (j + 1) * 3 = j * 3 + 3 := by omega
    have e1 : v3At (c :: r) (j + 1) = v3At r j := by unfold v3At; simp
    rw [e, e1]
    simp only [flat]
    refine ⟨?_, ?_, ?_⟩
    · simpa using ih.1
    · have : j * 3 + 3 + 1 = (j * 3 + 1) + 3 := by omega
      rw [this]; simpa using ih.2.1
    · have : j * 3 + 3 + 2 = (j * 3 + 2) + 3 := by omega
      rw [this]; simpa using ih.2.2

theorem flat_idx {l : List V3} {q : Nat} {u : Value} (h : (flat l)[q]? = some u) : ∃ j, j < l.length ∧ ((q = j * 3 ∧ u = (v3At l j).i) ∨ (q = j * 3 + 1 ∧ u = (v3At l j).k) ∨ (q = j * 3 + 2 ∧ u = (v3At l j).p)) := by
  have hq := (List.getElem?_eq_some_iff.1 h).1
  rw [flat_len] at hq
  have hj : q / 3 < l.length := by omega
  have hg := flat_get l (q / 3) hj
  refine ⟨q / 3, hj, ?_⟩
  rcases (by omega : q = q / 3 * 3 ∨ q = q / 3 * 3 + 1 ∨ q = q / 3 * 3 + 2) with e | e | e
  · left; refine ⟨e, ?_⟩; rw [← e, h] at hg; simpa using hg.1
  · right; left; refine ⟨e, ?_⟩; rw [← e, h] at hg; simpa using hg.2.1
  · right; right; refine ⟨e, ?_⟩; rw [← e, h] at hg; simpa using hg.2.2

theorem IsInts.one {B : Nat} {w : World} {v : Value} {xs : List Int} (h : IsInts B w v xs) : v.oneCell' = true := by
  obtain ⟨b, off, cap, ⟨a, rfl, _⟩, _⟩ := h; rfl

theorem IsLot.one {B : Nat} {w : World} {vi vk vp : Value} {d : Lot} (h : IsLot B w vi vk vp d) : vi.oneCell' = true ∧ vk.oneCell' = true ∧ vp.oneCell' = true := by
  obtain ⟨h1, rfl, h3⟩ := h
  exact ⟨h1.one, rfl, h3.one⟩

/-- a source of lots: their numbers lie in blocks below C -/
def SrcLots (C : Nat) (w : World) (vx : Value) (ys : List Lot) : Prop :=
  ∃ vals : List V3, Src w 3 vx ys.length (flat vals) ∧ vals.length = ys.length ∧ ∀ j, j < ys.length → IsLot C w (v3At vals j).i (v3At vals j).k (v3At vals j).p (lotAt ys j)

theorem add3 (b o j : Nat) : (⟨b, o, none⟩ : Addr).add j = ⟨b, o + j, none⟩ := by unfold Addr.add; split <;> simp_all

theorem IsLots.src {B C : Nat} {w : World} {v : Value} {ys : List Lot} (h : IsLots B w v ys) (hB : B ≤ C) : SrcLots C w v ys := by
  obtain ⟨b, off, cap, ⟨ad, rfl, hcap, hmax, ha⟩, hl, hc⟩ := h
  obtain ⟨L, hL⟩ := Go.Deep.choose_lt (α := V3) (n := ys.length) (p := fun j c => CellB B w b (off + j * 3) c.i ∧ CellB B w b (off + j * 3 + 1) c.k ∧ CellB B w b (off + j * 3 + 2) c.p ∧ IsLot B w c.i c.k c.p (lotAt ys j)) (fun j hj => by
    obtain ⟨vi, vk, vp, h1, h2, h3, h4⟩ := hc j hj
    exact ⟨⟨vi, vk, vp⟩, h1, h2, h3, h4⟩)
  have hvl : ((List.range ys.length).map L).length = ys.length := by simp
  have hat : ∀ j, j < ys.length → v3At ((List.range ys.length).map L) j = L j := fun j hj => by
    unfold v3At
    rw [List.getD_eq_getElem?_getD]
    simp [hj]
  refine ⟨(List.range ys.length).map L, ⟨ad, cap, rfl, by rw [flat_len, hvl], fun q u hu => ?_, fun u hu => ?_⟩, hvl, fun j hj => by rw [hat j hj]; exact (hL j hj).2.2.2.mono hB⟩
  · obtain ⟨j, hj, he⟩ := flat_idx hu
    rw [hvl] at hj
    obtain rfl : ad = some ⟨b, off, none⟩ := by rcases ha with ha | ha; exact ha; omega
    obtain ⟨h1, h2, h3, _⟩ := hL j hj
    rw [hat j hj] at he
    refine ⟨_, rfl, ?_⟩
    rw [add3]
    rcases he with ⟨rfl, rfl⟩ | ⟨rfl, rfl⟩ | ⟨rfl, rfl⟩
    · exact h1.2
    · rw [← Nat.add_assoc]; exact h2.2
    · rw [← Nat.add_assoc]; exact h3.2
  · obtain ⟨q, hq⟩ := List.getElem?_of_mem hu
    obtain ⟨j, hj, he⟩ := flat_idx hq
    rw [hvl] at hj
    rw [hat j hj] at he
    have := (hL j hj).2.2.2.one
    rcases he with ⟨_, rfl⟩ | ⟨_, rfl⟩ | ⟨_, rfl⟩
    · exact this.1
    · exact this.2.1
    · exact this.2.2

theorem srcLots_one {C g c : Nat} {w : World} {vi vk vp : Value} {d : Lot} (h1 : w.cell? ⟨g, 0, none⟩ = some vi) (h2 : w.cell? ⟨g, 1, none⟩ = some vk) (h3 : w.cell? ⟨g, 2, none⟩ = some vp) (hd : IsLot C w vi vk vp d) : SrcLots C w (.slice (some ⟨g, 0, none⟩) 1 c) [d] := by
  refine ⟨[⟨vi, vk, vp⟩], ⟨_, c, rfl, rfl, fun q u hu => ?_, ?_⟩, rfl, fun j hj => ?_⟩
  · refine ⟨_, rfl, ?_⟩
    rw [add3]
    simp only [flat] at hu
    match q, hu with
    | 0, hu => simp at hu; subst hu; simpa using h1
    | 1, hu => simp at hu; subst hu; simpa using h2
    | 2, hu => simp at hu; subst hu; simpa using h3
  · have := hd.one
    simp [flat, this.1, this.2.1, this.2.2]
  · have : j = 0 := by simpa using hj
    subst this
    exact hd

/-- v reads as the lots ls; its row was made from block C on; the lots' numbers lie below C -/
def OwnLots (C : Nat) (w : World) (v : Value) (ls : List Lot) : Prop :=
  ∃ vals : List V3, w.ownsRow C 39 3 v ls.length (flat vals) ∧ vals.length = ls.length ∧ ls.length ≤ 2513169434900 ∧ ∀ j, j < ls.length → IsLot C w (v3At vals j).i (v3At vals j).k (v3At vals j).p (lotAt ls j)

theorem OwnLots.nil (C : Nat) (w : World) : OwnLots C w (.slice none 0 0) [] := ⟨[], World.ownsRow_nil _ _ _ _, rfl, by simp, fun j hj => by simp at hj⟩

theorem OwnLots.made {C n : Nat} {w : World} (hn : n = w.heap.size) (hC : C ≤ w.heap.size) : OwnLots C (w.alloc (.cells #[] 39)) (.slice (some ⟨n, 0, none⟩) 0 0) [] := by
  subst hn
  exact ⟨[], World.ownsRow_made w #[] 0 hC (by simp) rfl, rfl, by simp, fun j hj => by simp at hj⟩

theorem OwnLots.kept {C : Nat} {w w' : World} {v : Value} {ls : List Lot} {row : Option Nat} (h : OwnLots C w v ls) (hg : w.grownBy w' row) (hr : ∀ k, row = some k → C ≤ k) (hC : C ≤ w.heap.size) (hne : v.ownBlock = none ∨ v.ownBlock ≠ row) : OwnLots C w' v ls := by
  obtain ⟨vals, h1, h2, h3, h4⟩ := h
  have hb : Below C w w' := (Below.refl C w).grown hg hC hr
  exact ⟨vals, h1.kept hg hne, h2, h3, fun j hj => (h4 j hj).below hb (Nat.le_refl _)⟩

theorem OwnLots.below {C : Nat} {w w' : World} {v : Value} {ls : List Lot} (h : OwnLots C w v ls) (hb : Below w.heap.size w w') (hC : C ≤ w.heap.size) : OwnLots C w' v ls :=
  h.kept (row := none) ⟨hb.os, hb.tape, hb.output, hb.size, fun k hk _ => hb.block k hk⟩ (fun k hk => by cases hk) hC (by cases hv : v.ownBlock <;> simp)

theorem OwnLots.form {C : Nat} {w : World} {v : Value} {ls : List Lot} (h : OwnLots C w v ls) : ∃ a cap, v = .slice a ls.length cap := by
  obtain ⟨vals, h1, h2, h3, h4⟩ := h
  rcases h1.2 with ⟨rfl, hn⟩ | ⟨g, cap, cur, rfl, rest⟩
  · exact ⟨none, 0, by rw [hn]⟩
  · exact ⟨_, cap, rfl⟩

theorem OwnLots.isLots {C : Nat} {w : World} {v : Value} {ls : List Lot} (h : OwnLots C w v ls) (hC : C ≤ w.heap.size) : IsLots w.heap.size w v ls := by
  obtain ⟨vals, ⟨hl, h1⟩, h2, h3, h4⟩ := h
  rcases h1 with ⟨rfl, hn⟩ | ⟨g, cap, cur, rfl, hb, hg, hnc, hcm, hcs, htk⟩
  · exact ⟨0, 0, 0, ⟨none, by rw [hn], by omega, by omega, Or.inr hn⟩, h3, fun j hj => by omega⟩
  · refine ⟨g, 0, cap, ⟨some ⟨g, 0, none⟩, rfl, hnc, by unfold maxLen at hcm; omega, Or.inl rfl⟩, h3, fun j hj => ⟨(v3At vals j).i, (v3At vals j).k, (v3At vals j).p, ?_⟩⟩
    have hgl := (Array.getElem?_eq_some_iff.1 hg).1
    have key : ∀ q u, q < ls.length * 3 → (flat vals)[q]? = some u → w.cell? ⟨g, 0 + q, none⟩ = some u := by
      intro q u hq hu
      simp only [World.cell?, hg, Nat.zero_add]
      have : (cur.toList.take (ls.length * 3))[q]? = (flat vals)[q]? := by rw [htk]
      rw [List.getElem?_take, if_pos hq, hu] at this
      simpa using this
    have hf := flat_get vals j (by omega)
    exact ⟨⟨hgl, key _ _ (by omega) hf.1⟩, ⟨hgl, key _ _ (by omega) hf.2.1⟩, ⟨hgl, key _ _ (by omega) hf.2.2⟩, (h4 j hj).mono hC⟩

theorem run_append_lots {w : World} {C : Nat} {v vx : Value} {xs ys : List Lot} {ty : TypeId} (hown : OwnLots C w v xs) (hs : SrcLots C w vx ys) (hlen : xs.length + ys.length ≤ 2513169434900) (hC : C ≤ w.heap.size) :
    ∃ v' w', (Builtin.append_ #[22, 22] ty #[v, vx]).run Try.prog w = .ok v' w' ∧ OwnLots C w' v' (xs ++ ys) ∧ w.grownBy w' v.ownBlock ∧ (v'.ownBlock = v.ownBlock ∨ v'.ownBlock = some w.heap.size) := by
  obtain ⟨i0, hi, hz0, hz1, hz2⟩ := info_parts lot_info
  obtain ⟨vals, o1, o2, o3, o4⟩ := hown
  obtain ⟨news, s1, s2, s3⟩ := hs
  obtain ⟨v', w', h1, h2, h3, h4⟩ := run_append_gen (P := Try.prog) w C 22 ty 39 i0 _ 3 56 Try.underlying22 hi hz0 hz1 hz2 rfl (by decide) v xs.length _ o1 vx ys.length _ s1 (by unfold maxLen; omega) (by omega) hC
  have hb : Below C w w' := (Below.refl C w).grown h3 hC (fun k hk => (o1.lt k hk).1)
  refine ⟨v', w', h1, ⟨vals ++ news, by rw [flat_append]; simpa using h2, by simp [o2, s2], by simpa using hlen, fun j hj => ?_⟩, h3, h4⟩
  by_cases e : j < xs.length
  · rw [v3At_left (by omega), lotAt_left e]
    exact (o4 j e).below hb (Nat.le_refl _)
  · rw [v3At_right (by omega), lotAt_right (by omega), o2]
    exact (s3 (j - xs.length) (by simp at hj; omega)).below hb (Nat.le_refl _)

theorem append_lotsA {ops : Array Oper} {rest : List Oper} {o : Oper} {a : Act} {w : World} {Q : Exit → Act → World → Prop} (hgd : o.guard = none) (s x : Operand)
    (ho : o.op = .call { callee := .builtin .append, args := #[s, x], argTypes := #[22, 22] })
    {C : Nat} {v vx : Value} {xs ys : List Lot} (hs : a.eval s = v) (hown : OwnLots C w v xs) (hx : a.eval x = vx) (hsrc : SrcLots C w vx ys) (hlen : xs.length + ys.length ≤ 2513169434900) (hC : C ≤ w.heap.size)
    (h : ∀ v' w', OwnLots C w' v' (xs ++ ys) → w.grownBy w' v.ownBlock → (v'.ownBlock = v.ownBlock ∨ v'.ownBlock = some w.heap.size) → wpList Try.prog ops Q rest (a.put o.dst v') w') : wpList Try.prog ops Q (o :: rest) a w := by
  refine wpList_plain hgd fun K hK => ?_
  obtain ⟨v', w', h1, h2, h3, h4⟩ := run_append_lots (ty := o.type) hown hsrc hlen hC
  exact wp_of_append w ho hs hx h1 (hK _ _ (h v' w' h2 h3 h4))

end Go.Proofs.Ythekefnocphcdaa

set_option linter.unusedVariables false

set_option linter.unusedSimpArgs false

namespace Go.Proofs.Ythekefnocphcdaa

open Go.ChangeShapes Go.WideShapes Go.ChangeAt Go.RowKit Go.Deep

variable {H : Type} {enc : TypeId × Value → H} {w : World}

theorem open_IsMat {fuel : Nat} {v : Value} {x : DataW H × List MemPlace} (h : DataW.trod enc Try.prog w 0 (fun _ => true) true fuel 27 [v] = some x)
    (hsz : ∀ n ∈ x.1.weights Try.prog 27, n ≤ reachBytes) : ∃ rows, IsMat w.heap.size w v rows := by
  have hC : Try.prog.cellsOf 34 = 1 := by kernel_rfl
  have hb : Try.prog.bytesOf 34 = 24 := by kernel_rfl
  rcases open_slice Try.underlying27 h with ⟨hv, rfl⟩ | ⟨a, len, cap, m, n, D, Pl, hv, _, hl, hm, hmm, rfl, hx⟩
  · cases hv
    exact ⟨[], 0, 0, 0, ⟨none, rfl, Nat.le_refl _, by omega, Or.inr rfl⟩, by simp, fun j hj => by simp at hj⟩
  · cases hv
    simp only [if_true] at hmm
    subst hmm
    have h8 := hsz ((((List.range len).map D).length + ((List.range (m - len)).map fun j => D (len + j)).length) * Try.prog.bytesOf 34) (by simp only [DataW.weights, Try.underlying27]; exact List.mem_cons_self)
    rw [hb] at h8
    simp only [List.length_map, List.length_range] at h8
    unfold reachBytes at h8
    have hel : ∀ i, i < len → ∃ r zs, (w.cells? 0 (a.add (i * 1)) 1 = some [r]) ∧ IsInts w.heap.size w r zs := by
      intro i hi
      obtain ⟨cs', h1, h2⟩ := hx i (by omega)
      rw [hC] at h1
      have hcl : cs'.length = 1 := (World.cells?_some h1).2.1
      match cs', hcl with
      | [r], _ =>
        obtain ⟨zs, hz⟩ := open_IsInts h2 (fun n hn => hsz n (by
          simp only [DataW.weights, Try.underlying27]
          exact List.mem_cons_of_mem _ (List.mem_append_left _ (weightsAll_mem (List.mem_map.2 ⟨i, List.mem_range.2 hi, rfl⟩) hn))))
        exact ⟨r, zs, h1, hz⟩
    obtain ⟨L, hL⟩ := choose_lt (α := List Int) (p := fun i zs => ∃ r, (w.cells? 0 (a.add (i * 1)) 1 = some [r]) ∧ IsInts w.heap.size w r zs) (fun i hi => by
      obtain ⟨r, zs, h1, h2⟩ := hel i hi
      exact ⟨zs, r, h1, h2⟩)
    have hn : ((List.range len).map L).length = len := by simp
    have hsp : 0 < len → a.spot = none := by
      intro h0
      obtain ⟨r, zs, h1, _⟩ := hel 0 h0
      have := (World.cells?_some h1).2.2 0 (by omega)
      simp [Addr.add] at this
      exact (cell_spot this).1
    refine ⟨(List.range len).map L, a.block, a.off, m, ⟨some a, by rw [hn], by omega, by unfold maxLen at hm; omega, ?_⟩, by omega, fun j hj => ?_⟩
    · by_cases h0 : len = 0
      · exact Or.inr (by omega)
      · left
        have := hsp (by omega)
        obtain ⟨b, o, sp⟩ := a
        simp at this
        rw [this]
    · rw [hn] at hj
      have h0 := hsp (by omega)
      obtain ⟨b, o, sp⟩ := a
      simp at h0
      subst h0
      obtain ⟨r, h1, h2⟩ := hL j hj
      have hat : rowAt ((List.range len).map L) j = L j := by
        unfold rowAt
        rw [List.getD_eq_getElem?_getD]
        simp [hj]
      have hc := (World.cells?_some h1).2.2
      rw [add_plain] at hc
      have c0 := hc 0 (by omega)
      rw [add_plain] at c0
      rw [hat]
      exact ⟨r, ⟨(cell_spot c0).2, by simpa using c0⟩, h2⟩

theorem open_IsMat' {v : Value} {d : DataW H} {p : List MemPlace} (hcs : v.cells.toList = [v]) (h : DataW.Trod enc Try.prog w 0 (fun _ => true) true 27 v d p)
    (hsz : ∀ n ∈ d.weights Try.prog 27, n ≤ reachBytes) : ∃ rows, IsMat w.heap.size w v rows := by
  obtain ⟨fuel, hf⟩ := h
  rw [hcs] at hf
  exact open_IsMat hf hsz

end Go.Proofs.Ythekefnocphcdaa

set_option linter.unusedVariables false

set_option linter.unusedSimpArgs false

namespace Go.Proofs.Ythekefnocphcdaa

/-- a lot whose permutation is not seen -/
def hideLot (u : Bool) (d : Lot) : Lot := if u then ⟨d.ins, false, []⟩ else d

/-- does a list have an office outside a coalition? -/
def strB (l c : List Int) : Bool := anyB l (fun n => !hasB c n)

def viewTo (f : Flow) (lines : List (List Int)) (c : List Int) : Nat → List Lot
  | 0 => []
  | k + 1 => viewTo f lines c k ++ [hideLot (strB (rowAt lines k) c) (lotAt f.lots k)]

def viewF (f : Flow) (lines : List (List Int)) (c : List Int) : Flow := ⟨f.senders, viewTo f lines c f.lots.length⟩

theorem viewTo_len (f : Flow) (lines : List (List Int)) (c : List Int) : ∀ k, (viewTo f lines c k).length = k
  | 0 => rfl
  | k + 1 => by simp [viewTo, viewTo_len f lines c k]

theorem viewTo_at (f : Flow) (lines : List (List Int)) (c : List Int) : ∀ {k j : Nat}, j < k → lotAt (viewTo f lines c k) j = hideLot (strB (rowAt lines j) c) (lotAt f.lots j)
  | 0, _, h => by omega
  | k + 1, j, h => by
    simp only [viewTo]
    unfold lotAt
    rw [List.getD_eq_getElem?_getD]
    by_cases e : j < k
    · rw [List.getElem?_append_left (by rw [viewTo_len]; exact e), ← List.getD_eq_getElem?_getD]
      exact viewTo_at f lines c e
    · have : j = k := by omega
      subst this
      rw [List.getElem?_append_right (by rw [viewTo_len]; exact Nat.le_refl _)]
      simp [viewTo_len, lotAt]

theorem view_len (f : Flow) (lines : List (List Int)) (c : List Int) : (viewF f lines c).lots.length = f.lots.length := viewTo_len _ _ _ _

theorem view_at {f : Flow} {lines : List (List Int)} {c : List Int} {j : Nat} (h : j < f.lots.length) : lotAt (viewF f lines c).lots j = hideLot (strB (rowAt lines j) c) (lotAt f.lots j) := viewTo_at f lines c h

theorem hide_ins (u : Bool) (d : Lot) : (hideLot u d).ins = d.ins := by unfold hideLot; split <;> rfl

theorem beforeI_view (f : Flow) (lines : List (List Int)) (c : List Int) : ∀ k, k ≤ f.lots.length → beforeI (viewF f lines c) k = beforeI f k
  | 0, _ => rfl
  | k + 1, h => by simp only [beforeI, beforeI_view f lines c k (by omega), view_at (show k < f.lots.length by omega), hide_ins]

theorem goneB_view (f : Flow) (lines : List (List Int)) (c : List Int) (x : Int) : ∀ k, k ≤ f.lots.length → goneB (viewF f lines c) x k = goneB f x k
  | 0, _ => rfl
  | k + 1, h => by simp only [goneB, goneB_view f lines c x k (by omega), view_at (show k < f.lots.length by omega), hide_ins]

theorem lotB_view {f : Flow} {lines : List (List Int)} {c : List Int} {k : Nat} (hk : k < f.lots.length) (h : lotB f k = true) : lotB (viewF f lines c) k = true := by
  unfold lotB at *
  simp only [view_at hk, hide_ins, beforeI_view f lines c k (by omega), goneB_view f lines c _ k (by omega)]
  simp only [Bool.and_eq_true] at *
  refine ⟨h.1, ?_⟩
  unfold hideLot
  split
  · simp
  · exact h.2

theorem lotsB_view {f : Flow} {lines : List (List Int)} {c : List Int} : ∀ {k : Nat}, k ≤ f.lots.length → lotsB f k = true → lotsB (viewF f lines c) k = true
  | 0, _, _ => rfl
  | k + 1, hk, h => by
    simp only [lotsB, Bool.and_eq_true] at *
    exact ⟨lotsB_view (by omega) h.1, lotB_view (by omega) h.2⟩

theorem view_check {f : Flow} {lines : List (List Int)} {c : List Int} (h : checkE f = 0) : checkE (viewF f lines c) = 0 := by
  have hck := checkE_ok h
  have h5 := lotsB_view (lines := lines) (c := c) (Nat.le_refl _) hck.2.2.2.2
  unfold checkE
  rw [view_len, beforeI_view f lines c _ (Nat.le_refl _), h5]
  have e : (viewF f lines c).senders = f.senders := rfl
  rw [e, if_neg (by omega), if_neg (by omega)]
  rfl

end Go.Proofs.Ythekefnocphcdaa

set_option linter.unusedVariables false

set_option linter.unusedSimpArgs false

namespace Go.Proofs.Ythekefnocphcdaa

open Go.RowKit

theorem cless_any (w : World) (x y : Int) :
    Calls Try.prog 95 #[.int .i64 x, .int .i64 y] w fun e w' => e = .returned (.bool (decide (x < y))) ∧ w' = w := by
  go_enter Try.func95, Try.ntmps95
  go_wp2_with (go_at_call 119; refine (isnan_any _ _).mono ?_; rintro e w5 ⟨rfl, rfl⟩)
  go_ret
  exact ⟨rfl, rfl⟩

/-- is a list in order? -/
def srtB (l : List Int) : Bool := (List.range (l.length - 1)).all fun j => decide (nth l j ≤ nth l (j + 1))

theorem srtB_true {l : List Int} (h : ∀ j, j + 1 < l.length → nth l j ≤ nth l (j + 1)) : srtB l = true := by
  unfold srtB
  rw [List.all_eq_true]
  intro j hj
  have := List.mem_range.1 hj
  exact decide_eq_true (h j (by omega))

theorem srtB_false {l : List Int} {j : Nat} (hj : j + 1 < l.length) (h : nth l (j + 1) < nth l j) : srtB l = false := by
  unfold srtB
  rw [List.all_eq_false]
  exact ⟨j, List.mem_range.2 (by omega), by simp; omega⟩

set_option maxHeartbeats 1000000 in
/-- slices.IsSorted -/
theorem sorted_any (B : Nat) (w : World) (v : Value) (zs : List Int) (hv : IsInts B w v zs) :
    Calls Try.prog 64 #[v] w fun e w' => e = .returned (.bool (srtB zs)) ∧ Drew w w' := by
  obtain ⟨b, off, cap, ⟨a, rfl, hcap, hmax, ha⟩, hlen, hz, hc⟩ := hv
  have HC := Lib.hid hc
  clear hc hz
  go_enter Try.func64, Try.ntmps64
  go_wp2
  go_loopw [3] (fun i wr => ∃ k : Nat, k ≤ zs.length ∧ i = .int .i64 ((k : Int) - 1) ∧ (∀ j, k ≤ j + 1 → j + 1 < zs.length → nth zs j ≤ nth zs (j + 1)) ∧ Drew w wr) (fun i _ => (intOf i).toNat)
  case atStart => exact ⟨zs.length, Nat.le_refl _, rfl, fun j h1 h2 => by omega, Drew.refl _⟩
  case round =>
    obtain ⟨k, hk, rfl, hno, hd⟩ := hrel
    have HN := Lib.hid hno
    have HD := Lib.hid hd
    clear hno hd
    by_cases hlt : 2 ≤ k
    · obtain ⟨m, rfl⟩ : ∃ m, k = m + 2 := ⟨k - 2, by omega⟩
      obtain rfl : a = some ⟨b, off, none⟩ := by rcases ha with ha | ha; exact ha; omega
      have hcell := (HD.out.cell _).trans (HC.out m (by omega)).2
      have hcell' := (HD.out.cell _).trans (HC.out (m + 1) (by omega)).2
      have e1 : ((m + 2 : Nat) : Int) - 1 = (m : Int) + 1 := by omega
      have g1 : decide (0 < (m : Int) + 1) = true := decide_eq_true (by omega)
      have w1 : IntKind.i64.wrap ((m : Int) + 1 - 1) = (m : Int) := by rw [IntWalk.i64_in _ (by omega)]; omega
      have g2 : (0 : Int) ≤ (m : Int) + 1 := by omega
      have g3 : ((m : Int) + 1).toNat = m + 1 := by omega
      have g4 : (m : Int) + 1 < (zs.length : Int) := by omega
      have g5 : (m : Int) < (zs.length : Int) := by omega
      rw [e1]
      clear ha e1
      go_wp2
      go_quiet ((go_at_call 95; exact Calls.quiet_of_same (cless_any _ _ _)))
      by_cases he : nth zs (m + 1) < nth zs m
      · have HT := Lib.hid (srtB_false (l := zs) (j := m) (by omega) he)
        have HE := Lib.hid he
        clear he
        go_wp2
        · go_ret
          exact ⟨by rw [HT.out]; rfl, HD.out.drewN _⟩
        · exfalso
          have := HE.out
          omega
      · have HE := Lib.hid he
        clear he
        go_wp2
        go_roundw
        case rel => exact ⟨m + 1, by omega, by go_num, fun j h1 h2 => by
          by_cases e : j = m
          · subst e; have := HE.out; omega
          · exact HN.out j (by omega) h2, HD.out.drewN _⟩
        case measure => simp [intOf]; try omega
    · have HT := Lib.hid (srtB_true (l := zs) fun j hj => HN.out j (by omega) hj)
      have g1 : decide (0 < (k : Int) - 1) = false := decide_eq_false (by omega)
      go_wp2
      go_ret
      exact ⟨by rw [HT.out]; rfl, HD.out⟩

/-- the index of the first number of a list that is x; -1 if there is none -/
def idxI (l : List Int) (x : Int) : Int := if x ∈ l then (l.idxOf x : Int) else -1

theorem idxI_found {l : List Int} {x : Int} {k : Nat} (h : hasB (l.take k) x = false) (hk : k < l.length) (e : nth l k = x) : idxI l x = k := by
  have hm : x ∈ l := by rw [← e, nth_eq_getElem hk]; exact List.getElem_mem hk
  unfold idxI
  rw [if_pos hm]
  have h1 := List.idxOf_lt_length_of_mem hm
  have h2 : l[l.idxOf x] = x := List.getElem_idxOf h1
  have h3 : ¬ l.idxOf x < k := by
    intro hlt
    have : x ∈ l.take k := by
      rw [List.mem_take_iff_getElem]
      exact ⟨l.idxOf x, by omega, h2⟩
    unfold hasB at h
    simp at h
    exact h this
  have h4 : ¬ k < l.idxOf x := by
    intro hlt
    have h5 := List.not_of_lt_findIdx (p := (· == x)) (xs := l) (i := k) hlt
    rw [nth_eq_getElem hk] at e
    simp [e] at h5
  omega

theorem idxI_none {l : List Int} {x : Int} (h : hasB l x = false) : idxI l x = -1 := by
  unfold idxI hasB at *
  simp at h
  rw [if_neg h]

theorem idxI_has (l : List Int) (x : Int) : decide (0 ≤ idxI l x) = hasB l x := by
  unfold idxI hasB
  by_cases h : x ∈ l
  · rw [if_pos h]; simp [h]
  · rw [if_neg h]; simp [h]

set_option maxHeartbeats 1000000 in
/-- slices.Index -/
theorem sindex_any (B : Nat) (w : World) (v : Value) (zs : List Int) (x : Int) (hv : IsInts B w v zs) :
    Calls Try.prog 44 #[v, .int .i64 x] w fun e w' => e = .returned (.int .i64 (idxI zs x)) ∧ w' = w := by
  obtain ⟨b, off, cap, ⟨a, rfl, hcap, hmax, ha⟩, hlen, hz, hc⟩ := hv
  have HC := Lib.hid hc
  clear hc hz
  go_enter Try.func44, Try.ntmps44
  go_wp2
  go_loop [8] (fun i => ∃ k : Nat, k ≤ zs.length ∧ i = .int .i64 k ∧ hasB (zs.take k) x = false) (fun i => zs.length - (intOf i).toNat)
  case atStart => exact ⟨0, by omega, rfl, rfl⟩
  case round =>
    obtain ⟨k, hk, rfl, hno⟩ := hrel
    have HN := Lib.hid hno
    clear hno
    by_cases hlt : k < zs.length
    · obtain rfl : a = some ⟨b, off, none⟩ := by rcases ha with ha | ha; exact ha; omega
      have hcell := (HC.out k hlt).2
      have HT := Lib.hid (hasB_take_succ (n := x) hlt)
      clear ha
      by_cases he : nth zs k = x
      · have HX := Lib.hid (idxI_found HN.out hlt he)
        have he1 : (x == nth zs k) = true := by simp [he]
        have he2 : (nth zs k == x) = true := by simp [he]
        clear he
        go_wp2
        go_ret
        exact ⟨by rw [HX.out]; rfl, rfl⟩
      · have he1 : (x == nth zs k) = false := by simp; exact fun h => he h.symm
        have he2 : (nth zs k == x) = false := by simpa using he
        have HE2 := Lib.hid he2
        clear he
        go_wp2
        go_round
        case rel => exact ⟨k + 1, by omega, by go_num, by rw [HT.out, HN.out, HE2.out]; rfl⟩
        case measure => simp [intOf]; omega
    · have HX := Lib.hid (idxI_none (l := zs) (x := x) (by rw [← hasB_take_all (k := k) (by omega)]; exact HN.out))
      go_wp2
      go_ret
      exact ⟨by rw [HX.out]; rfl, rfl⟩

/-- slices.Contains -/
theorem scontains_any (B : Nat) (w : World) (v : Value) (zs : List Int) (x : Int) (hv : IsInts B w v zs) :
    Calls Try.prog 66 #[v, .int .i64 x] w fun e w' => e = .returned (.bool (hasB zs x)) ∧ w' = w := by
  have HC := Lib.hid (sindex_any B w v zs x hv)
  have HI := Lib.hid (idxI_has zs x)
  clear hv
  go_enter Try.func66, Try.ntmps66
  go_wp2_with (go_at_call 44; refine HC.out.mono ?_; rintro e w5 ⟨rfl, rfl⟩)
  go_ret
  exact ⟨by rw [← HI.out]; rfl, rfl⟩

def officeB (n : Int) : Bool := decide (0 ≤ n) && decide (n < 24)

theorem office_ok (w : World) : OkFn Try.prog 61 #[] w officeB := by
  refine ⟨fun args W => by simp [go_sem], fun W x _ _ => ?_⟩
  have HO : Hid (officeB x = (decide (0 ≤ x) && decide (x < 24))) := Lib.hid rfl
  go_enter Try.func61, Try.ntmps61
  go_wp2
  all_goals
    go_ret
    exact ⟨by rw [HO.out]; first | (simp_all; done) | (simp_all; omega), Below.refl _ _⟩

/-- is a list a line? -/
def lineB (l : List Int) : Bool := decide (l ≠ []) && (diffB l && allB l officeB)

/-- the closure that finds what is no line -/
theorem noline_any (B : Nat) (w : World) (v : Value) (zs : List Int) (c : Nat) (hv : IsInts B w v zs) (hB : B ≤ w.heap.size) (hc : w.cell? ⟨c, 0, none⟩ = some (.func (.func 61) #[] #[])) :
    Calls Try.prog 62 #[v, .pointer (some ⟨c, 0, none⟩)] w fun e w' => e = .returned (.bool (!lineB zs)) ∧ Below w.heap.size w w' := by
  have HV := Lib.hid hv
  obtain ⟨b, off, cap, ⟨a, rfl, hcap, hmax, ha⟩, hlen, hz, hcc⟩ := hv
  clear ha hcc hz
  by_cases h0 : zs.length = 0
  · have h0' : ((zs.length : Int) == 0) = true := by simpa using h0
    have HT : Hid (lineB zs = false) := Lib.hid (by unfold lineB; rw [List.eq_nil_of_length_eq_zero h0]; rfl)
    clear h0
    go_enter Try.func62, Try.ntmps62
    go_wp2
    go_ret
    exact ⟨by rw [HT.out]; rfl, Below.refl _ _⟩
  · have h0' : ((zs.length : Int) == 0) = false := by simp; intro e; exact h0 (by simp [e])
    have HT : Hid (lineB zs = (diffB zs && allB zs officeB)) := Lib.hid (by
      unfold lineB
      have hne : zs ≠ [] := fun e => h0 (by rw [e]; rfl)
      rw [decide_eq_true hne]; rfl)
    clear h0
    go_enter Try.func62, Try.ntmps62
    go_wp2_with (go_at_call 63; refine (fdifferent_any B w _ zs 61 #[] officeB HV.out hB (office_ok w)).mono ?_; rintro e w5 ⟨rfl, hb5⟩; have HB5 := Lib.hid hb5; clear hb5)
    go_ret
    exact ⟨by rw [HT.out, Bool.not_and]; rfl, HB5.out⟩

theorem stranger_any (B : Nat) (w : World) (v : Value) (zs : List Int) (x : Int) (c : Nat) (hv : IsInts B w v zs) (hc : w.cell? ⟨c, 0, none⟩ = some v) :
    Calls Try.prog 65 #[.int .i64 x, .pointer (some ⟨c, 0, none⟩)] w fun e w' => e = .returned (.bool (!hasB zs x)) ∧ w' = w := by
  have HC := Lib.hid (scontains_any B w v zs x hv)
  obtain ⟨b, off, cap, ⟨a, rfl, _⟩, _⟩ := hv
  go_enter Try.func65, Try.ntmps65
  go_wp2_with (go_at_call 66; refine HC.out.mono ?_; rintro e w5 ⟨rfl, rfl⟩)
  go_ret
  exact ⟨rfl, rfl⟩

def anyRow (rows : List (List Int)) (p : List Int → Bool) : Nat → Bool
  | 0 => false
  | k + 1 => anyRow rows p k || p (rowAt rows k)

theorem anyRow_of {rows : List (List Int)} {p : List Int → Bool} {k m : Nat} (h : anyRow rows p k = true) (hk : k ≤ m) : anyRow rows p m = true := by
  induction hk with
  | refl => exact h
  | step _ ih => simp [anyRow, ih]

set_option maxHeartbeats 1000000 in
theorem indexrow_any (B : Nat) (w : World) (v : Value) (rows : List (List Int)) (c : Nat) (hv : IsMat B w v rows) (hB : B ≤ w.heap.size) (hcb : c < w.heap.size) (hc : w.cell? ⟨c, 0, none⟩ = some (.func (.func 61) #[] #[])) :
    Calls Try.prog 88 #[v, .func (.func 62) #[] #[.pointer (some ⟨c, 0, none⟩)]] w fun e w' => ∃ i : Int, e = .returned (.int .i64 i) ∧ decide (0 ≤ i) = anyRow rows (fun l => !lineB l) rows.length ∧ Below w.heap.size w w' := by
  obtain ⟨b, off, cp, ⟨a, rfl, hcap, hmax, ha⟩, hlen, hcc⟩ := hv
  have HC := Lib.hid hcc
  have HCC := Lib.hid hc
  have eg : ∀ args W, (callFunc 62 args).run Try.prog W = .ok (.enter 62 args) W := fun args W => by simp [go_sem]
  clear hcc hc
  go_enter Try.func88, Try.ntmps88
  go_wp2
  go_loopw [8] (fun i wr => ∃ k : Nat, k ≤ rows.length ∧ i = .int .i64 k ∧ anyRow rows (fun l => !lineB l) k = false ∧ Below w.heap.size w wr) (fun i _ => rows.length - (intOf i).toNat)
  case atStart => exact ⟨0, by omega, rfl, rfl, Below.refl _ _⟩
  case round =>
    obtain ⟨k, hk, rfl, h1, hbr⟩ := hrel
    have H1 := Lib.hid h1
    have HBR := Lib.hid hbr
    clear h1 hbr
    by_cases hlt : k < rows.length
    · obtain rfl : a = some ⟨b, off, none⟩ := by rcases ha with ha | ha; exact ha; omega
      obtain ⟨r, hcr, hr⟩ := HC.out k hlt
      have hcell := (HBR.out.cell (p := ⟨b, off + k, none⟩) (by have := hcr.1; show b < _; omega)).trans hcr.2
      have HR := Lib.hid (hr.below HBR.out hB)
      have HCW := Lib.hid ((HBR.out.cell (p := ⟨c, 0, none⟩) hcb).trans HCC.out)
      have HS : Hid (anyRow rows (fun l => !lineB l) (k + 1) = (anyRow rows (fun l => !lineB l) k || !lineB (rowAt rows k))) := Lib.hid rfl
      clear hcr hr
      cases hp : lineB (rowAt rows k)
      · have HP := Lib.hid hp
        clear hp
        go_wp2_with (go_at_call 62; refine (noline_any B wr r (rowAt rows k) c HR.out (by have := HBR.out.size; omega) HCW.out).mono ?_; rintro e w7 ⟨rfl, hb7⟩; have HB7 := Lib.hid hb7; clear hb7; rw [HP.out])
        go_ret
        exact ⟨k, rfl, by rw [anyRow_of (k := k + 1) (m := rows.length) (by rw [HS.out, HP.out]; simp) (by omega)]; simp, HBR.out.trans (HB7.out.mono HBR.out.size)⟩
      · have HP := Lib.hid hp
        clear hp
        go_wp2_with (go_at_call 62; refine (noline_any B wr r (rowAt rows k) c HR.out (by have := HBR.out.size; omega) HCW.out).mono ?_; rintro e w7 ⟨rfl, hb7⟩; have HB7 := Lib.hid hb7; clear hb7; rw [HP.out])
        go_roundw
        case rel => exact ⟨k + 1, by omega, by go_num, by rw [HS.out, H1.out, HP.out]; rfl, HBR.out.trans (HB7.out.mono HBR.out.size)⟩
        case measure => simp [intOf]; omega
    · obtain rfl : k = rows.length := by omega
      go_wp2
      go_ret
      exact ⟨-1, rfl, by rw [H1.out]; rfl, HBR.out⟩

theorem containsrow_any (B : Nat) (w : World) (v : Value) (rows : List (List Int)) (c : Nat) (hv : IsMat B w v rows) (hB : B ≤ w.heap.size) (hcb : c < w.heap.size) (hc : w.cell? ⟨c, 0, none⟩ = some (.func (.func 61) #[] #[])) :
    Calls Try.prog 52 #[v, .func (.func 62) #[] #[.pointer (some ⟨c, 0, none⟩)]] w fun e w' => e = .returned (.bool (anyRow rows (fun l => !lineB l) rows.length)) ∧ Below w.heap.size w w' := by
  have HC := Lib.hid (indexrow_any B w v rows c hv hB hcb hc)
  clear hv hc
  go_enter Try.func52, Try.ntmps52
  go_wp2_with (go_at_call 88; refine HC.out.mono ?_; rintro e w5 ⟨i, rfl, hi, hb5⟩; have HI := Lib.hid hi; have HB5 := Lib.hid hb5; clear hi hb5)
  go_ret
  exact ⟨by rw [← HI.out]; rfl, HB5.out⟩

def anyUnk (ls : List Lot) : Nat → Bool
  | 0 => false
  | k + 1 => anyUnk ls k || !(lotAt ls k).known

theorem anyUnk_of {ls : List Lot} {k m : Nat} (h : anyUnk ls k = true) (hk : k ≤ m) : anyUnk ls m = true := by
  induction hk with
  | refl => exact h
  | step _ ih => simp [anyUnk, ih]

def knownB (f : Flow) : Bool := !anyUnk f.lots f.lots.length

theorem anyUnk_false {ls : List Lot} : ∀ {k : Nat}, anyUnk ls k = false → ∀ j, j < k → (lotAt ls j).known = true
  | 0, _, j, hj => by omega
  | k + 1, h, j, hj => by
    simp only [anyUnk, Bool.or_eq_false_iff] at h
    by_cases e : j = k
    · subst e; simpa using h.2
    · exact anyUnk_false h.1 j (by omega)

theorem knownB_all {f : Flow} (h : knownB f = true) : ∀ d ∈ f.lots, d.known = true := by
  intro d hd
  obtain ⟨j, hj, rfl⟩ := List.getElem_of_mem hd
  have := anyUnk_false (k := f.lots.length) (by unfold knownB at h; simpa using h) j hj
  have e : lotAt f.lots j = f.lots[j] := by unfold lotAt; rw [List.getD_eq_getElem?_getD, List.getElem?_eq_getElem hj]; rfl
  rwa [e] at this

theorem unk_any (w : World) (vi vp : Value) (k : Bool) :
    Calls Try.prog 93 #[.agg #[vi, .bool k, vp]] w fun e w' => e = .returned (.bool (!k)) ∧ Below w.heap.size w w' := by
  go_enter Try.func93, Try.ntmps93
  go_wp2
  go_ret
  exact ⟨rfl, box_below' _ _⟩

set_option maxHeartbeats 1000000 in
theorem indexunk_any (B : Nat) (w : World) (v : Value) (ls : List Lot) (hv : IsLots B w v ls) (hB : B ≤ w.heap.size) :
    Calls Try.prog 118 #[v, .func (.func 93) #[] #[]] w fun e w' => ∃ i : Int, e = .returned (.int .i64 i) ∧ decide (0 ≤ i) = anyUnk ls ls.length ∧ Below w.heap.size w w' := by
  obtain ⟨b, off, cp, ⟨a, rfl, hcap, hmax, ha⟩, hlen, hcc⟩ := hv
  have HC := Lib.hid hcc
  have eg : ∀ args W, (callFunc 93 args).run Try.prog W = .ok (.enter 93 args) W := fun args W => by simp [go_sem]
  clear hcc
  go_enter Try.func118, Try.ntmps118
  go_wp2
  go_loopw [8] (fun i wr => ∃ k : Nat, k ≤ ls.length ∧ i = .int .i64 k ∧ anyUnk ls k = false ∧ Below w.heap.size w wr) (fun i _ => ls.length - (intOf i).toNat)
  case atStart => exact ⟨0, by omega, rfl, rfl, Below.refl _ _⟩
  case round =>
    obtain ⟨k, hk, rfl, h1, hbr⟩ := hrel
    have H1 := Lib.hid h1
    have HBR := Lib.hid hbr
    clear h1 hbr
    by_cases hlt : k < ls.length
    · obtain rfl : a = some ⟨b, off, none⟩ := by rcases ha with ha | ha; exact ha; omega
      obtain ⟨vi, vk, vp, hc1, hc2, hc3, hl1, rfl, hl3⟩ := HC.out k hlt
      have hb0 : b < w.heap.size := by have := hc1.1; omega
      have cell1 := (HBR.out.cell (p := ⟨b, off + k * 3, none⟩) hb0).trans hc1.2
      have cell2 := (HBR.out.cell (p := ⟨b, off + k * 3 + 1, none⟩) hb0).trans hc2.2
      have cell3 := (HBR.out.cell (p := ⟨b, off + k * 3 + 2, none⟩) hb0).trans hc3.2
      have HS : Hid (anyUnk ls (k + 1) = (anyUnk ls k || !(lotAt ls k).known)) := Lib.hid rfl
      obtain ⟨kn, hkn⟩ : ∃ kn, (lotAt ls k).known = kn := ⟨_, rfl⟩
      rw [hkn] at HS cell2
      obtain ⟨b1, o1, c1, ⟨a1, rfl, _⟩, _⟩ := hl1
      obtain ⟨b3, o3, c3, ⟨a3, rfl, _⟩, _⟩ := hl3
      clear hc1 hc2 hc3 hkn
      cases kn
      · go_wp2_with (go_at_call 93; refine (unk_any _ _ _ _).mono ?_; rintro e w7 ⟨rfl, hb7⟩; have HB7 := Lib.hid hb7; clear hb7)
        go_ret
        exact ⟨k, rfl, by rw [anyUnk_of (k := k + 1) (m := ls.length) (by rw [HS.out]; simp) (by omega)]; simp, HBR.out.trans (HB7.out.mono HBR.out.size)⟩
      · go_wp2_with (go_at_call 93; refine (unk_any _ _ _ _).mono ?_; rintro e w7 ⟨rfl, hb7⟩; have HB7 := Lib.hid hb7; clear hb7)
        go_roundw
        case rel => exact ⟨k + 1, by omega, by go_num, by rw [HS.out, H1.out]; rfl, HBR.out.trans (HB7.out.mono HBR.out.size)⟩
        case measure => simp [intOf]; omega
    · obtain rfl : k = ls.length := by omega
      go_wp2
      go_ret
      exact ⟨-1, rfl, by rw [H1.out]; rfl, HBR.out⟩

theorem containsunk_any (B : Nat) (w : World) (v : Value) (ls : List Lot) (hv : IsLots B w v ls) (hB : B ≤ w.heap.size) :
    Calls Try.prog 92 #[v, .func (.func 93) #[] #[]] w fun e w' => e = .returned (.bool (anyUnk ls ls.length)) ∧ Below w.heap.size w w' := by
  have HC := Lib.hid (indexunk_any B w v ls hv hB)
  clear hv
  go_enter Try.func92, Try.ntmps92
  go_wp2_with (go_at_call 118; refine HC.out.mono ?_; rintro e w5 ⟨i, rfl, hi, hb5⟩; have HI := Lib.hid hi; have HB5 := Lib.hid hb5; clear hi hb5)
  go_ret
  exact ⟨by rw [← HI.out]; rfl, HB5.out⟩

theorem known_any (B : Nat) (w : World) (vs vl : Value) (f : Flow) (hf : IsFlow B w vs vl f) (hB : B ≤ w.heap.size) :
    Calls Try.prog 59 #[.agg #[vs, vl]] w fun e w' => e = .returned (.bool (knownB f)) ∧ Below w.heap.size w w' := by
  have HC := Lib.hid (fun o => containsunk_any B (w.alloc o) vl f.lots (hf.2.2.below (box_below hB o) (Nat.le_refl _)) (by simp; omega))
  obtain ⟨rfl, _, hl⟩ := hf
  obtain ⟨b, off, cap, ⟨a, rfl, _⟩, _⟩ := hl
  go_enter Try.func59, Try.ntmps59
  go_wp2_with (go_at_call 92; refine (HC.out _).mono ?_; rintro e w5 ⟨rfl, hb5⟩; have HB5 := Lib.hid hb5; clear hb5)
  go_ret
  exact ⟨rfl, (box_below (Nat.le_refl _) _).trans (HB5.out.mono (by simp))⟩

end Go.Proofs.Ythekefnocphcdaa

set_option linter.unusedVariables false

set_option linter.unusedSimpArgs false

namespace Go.Proofs.Ythekefnocphcdaa

open Go.RowKit

def viewOk (f : Flow) (lines : List (List Int)) (c : List Int) : Bool :=
  knownB f && (decide (lines.length = f.lots.length) && (!anyRow lines (fun l => !lineB l) lines.length && ((diffB c && allB c officeB) && srtB c)))

def viewE (f : Flow) (lines : List (List Int)) (c : List Int) : Int := if checkE f ≠ 0 then checkE f else if viewOk f lines c then 0 else 1

def viewR (f : Flow) (lines : List (List Int)) (c : List Int) : Flow := if viewE f lines c = 0 then viewF f lines c else ⟨0, []⟩

/-- what holds at the head of View's loop -/
def ViewRel (w w9 : World) (f : Flow) (lines : List (List Int)) (c : List Int) (vy vi : Value) (wr : World) : Prop :=
  ∃ (k : Nat) (vL : Value), k ≤ f.lots.length ∧ vi = .int .i64 k ∧ CellsN wr (w.heap.size + 1 + 1) #[.int .i64 f.senders, vL] ∧ OwnLots w.heap.size wr vL (viewTo f lines c k) ∧
    (∀ j, vL.ownBlock = some j → w9.heap.size ≤ j) ∧ Cell1 wr (w.heap.size + 1) vy ∧ Below w.heap.size w wr ∧ w9.heap.size ≤ wr.heap.size

theorem OwnLots.form' {C : Nat} {w : World} {v : Value} {ls : List Lot} (h : OwnLots C w v ls) : ∃ a n c, v = .slice a n c := by
  obtain ⟨a, c, e⟩ := h.form
  exact ⟨a, _, c, e⟩

theorem OwnLots.rows {C : Nat} {w : World} {v : Value} {ls : List Lot} (h : OwnLots C w v ls) : ∀ k, v.ownBlock = some k → C ≤ k := by
  obtain ⟨vals, h1, _⟩ := h
  exact fun k hk => (h1.lt k hk).1

theorem OwnLots.rowlt {C : Nat} {w : World} {v : Value} {ls : List Lot} (h : OwnLots C w v ls) : ∀ k, v.ownBlock = some k → k < w.heap.size := by
  obtain ⟨vals, h1, _⟩ := h
  exact fun k hk => (h1.lt k hk).2

theorem stranger_ok (B : Nat) (w : World) (v : Value) (zs : List Int) (c : Nat) (hv : IsInts B w v zs) (hB : B ≤ w.heap.size) (hc : Cell1 w c v) :
    OkFn2 Try.prog 65 #[] #[.pointer (some ⟨c, 0, none⟩)] w (fun _ => True) (fun n => !hasB zs n) := by
  refine ⟨fun args W => by simp [go_sem], fun W x hW _ => ?_⟩
  refine (stranger_any B W v zs x c (hv.below hW hB) (hc.ext hW).cell).mono ?_
  rintro e w' ⟨rfl, rfl⟩
  exact ⟨rfl, Below.refl _ _⟩

theorem IsInts.nil0 (B : Nat) (w : World) : IsInts B w (Value.slice Option.none 0 0) [] := ⟨0, 0, 0, ⟨Option.none, rfl, by simp, by omega, Or.inr rfl⟩, by simp, by simp, fun j hj => by simp at hj⟩

theorem run_store_func (P : Program) (w : World) (a : Addr) (m : Mode) (g : Fn) (x y : Array Value) : (store a (.func g x y) m).run P w = stored P w a (.func g x y) m := run_store P w a _ m rfl

attribute [local go_sem] run_store_func

theorem islots_nil (B : Nat) (w : World) : IsLots B w (.slice none 0 0) [] := ⟨0, 0, 0, ⟨none, rfl, by simp, by omega, Or.inr rfl⟩, by simp, fun j hj => by simp at hj⟩

set_option maxHeartbeats 4000000 in
set_option maxRecDepth 100000 in
/-- flows.View -/
theorem view_any (B : Nat) (w : World) (vs vl vm vc : Value) (f : Flow) (lines : List (List Int)) (c : List Int) (hf : IsFlow B w vs vl f) (hm : IsMat B w vm lines) (hc : IsInts B w vc c) (hB : B ≤ w.heap.size) :
    Calls Try.prog 31 #[.agg #[vs, vl], vm, vc] w fun e w' => ∃ vl', e = .returned (.tuple #[.agg #[.int .i64 (viewR f lines c).senders, vl'], .int .i64 (viewE f lines c)]) ∧ IsLots w'.heap.size w' vl' (viewR f lines c).lots ∧ Below w.heap.size w w' := by
  have HF := Lib.hid hf
  have HM := Lib.hid hm
  have HC := Lib.hid hc
  obtain ⟨rfl, ⟨hs1, hs2⟩, hl⟩ := hf
  obtain ⟨b, off, cap, ⟨a, rfl, hcap, hmax, ha⟩, hlen, hcl⟩ := hl
  obtain ⟨b1, off1, cap1, ⟨a1, rfl, hcap1, hmax1, ha1⟩, hlen1, hcm⟩ := hm
  obtain ⟨b2, off2, cap2, ⟨a2, rfl, hcap2, hmax2, ha2⟩, hlen2, hz2, hcc⟩ := hc
  have HCL := Lib.hid hcl
  have HCM := Lib.hid hcm
  have HA := Lib.hid ha
  have HA1 := Lib.hid ha1
  clear hcl hcm hcc hz2 ha ha1 ha2
  have HCK := Lib.hid (fun o1 o2 o3 => fcheck_any B (((w.alloc o1).alloc o2).alloc o3) _ _ f (HF.out.below ((((Below.refl B w).alloc hB o1).alloc (by simp; omega) o2).alloc (by simp; omega) o3) (Nat.le_refl _)) (by simp; omega))
  obtain ⟨ER, hER⟩ : ∃ e, viewE f lines c = e := ⟨_, rfl⟩
  obtain ⟨RR, hRR⟩ : ∃ r, viewR f lines c = r := ⟨_, rfl⟩
  have HER := Lib.hid hER
  have HRR := Lib.hid hRR
  rw [hER, hRR]
  clear hER hRR
  go_enter Try.func31, Try.ntmps31
  go_wp2_with fail
  refine (HCK.out _ _ _).mono ?_
  rintro e w5 ⟨rfl, hb5⟩
  have HX5 := Lib.hid ((((Box.new w #[.int .i64 f.senders, .slice a f.lots.length cap] 24).alloc (.cells #[.slice a2 c.length cap2] 34)).alloc (.cells #[.int .i64 0, .slice none 0 0] 24)).ext hb5)
  have HY5 := Lib.hid (((Cell1.new (w.alloc (.cells #[.int .i64 f.senders, .slice a f.lots.length cap] 24)) (.slice a2 c.length cap2) 34).alloc (.cells #[.int .i64 0, .slice none 0 0] 24)).ext hb5)
  have HL5 := Lib.hid ((CellsN.new ((w.alloc (.cells #[.int .i64 f.senders, .slice a f.lots.length cap] 24)).alloc (.cells #[.slice a2 c.length cap2] 34)) #[.int .i64 0, .slice none 0 0] 24).ext hb5)
  have HW5 : Hid (Below w.heap.size w w5) := Lib.hid (((((Below.refl _ w).alloc (Nat.le_refl _) _).alloc (by simp) _).alloc (by simp; omega) _).trans (hb5.mono (by simp; omega)))
  simp only [World.size_alloc] at HY5 HL5
  have HZ5 : Hid (w.heap.size + 2 < w5.heap.size) := Lib.hid HL5.out.lt
  clear hb5
  by_cases h1 : checkE f = 0
  · have h1' : (checkE f != 0) = false := by simpa using h1
    have H1 := Lib.hid h1
    clear h1
    obtain ⟨z5, r5⟩ := HX5.out
    have HVE : Hid (ER = if viewOk f lines c then 0 else 1) := Lib.hid (by rw [← HER.out]; unfold viewE; rw [if_neg (by simp [H1.out])])
    go_wp2_with fail
    refine (known_any B (w5.alloc _) _ _ f (HF.out.below (HW5.out.alloc HW5.out.size _) hB) (by have := HW5.out.size; simp; omega)).mono ?_
    rintro e w6 ⟨rfl, hb6⟩
    have HX6 := Lib.hid ((HX5.out.alloc (.cells #[.func (.func 61) #[] #[]] 86)).ext hb6)
    have HY6 := Lib.hid ((HY5.out.alloc (.cells #[.func (.func 61) #[] #[]] 86)).ext hb6)
    have HL6 := Lib.hid ((HL5.out.alloc (.cells #[.func (.func 61) #[] #[]] 86)).ext hb6)
    have HN6 := Lib.hid ((Cell1.new w5 (.func (.func 61) #[] #[]) 86).ext hb6)
    have HW6 : Hid (Below w.heap.size w w6) := Lib.hid ((HW5.out.alloc HW5.out.size _).trans (hb6.mono (by have := HW5.out.size; simp; omega)))
    clear hb6 z5 r5
    cases hk : knownB f
    · have HE : Hid (ER = 1) := Lib.hid (by rw [HVE.out]; unfold viewOk; rw [hk]; rfl)
      have HR : Hid (RR = ⟨0, []⟩) := Lib.hid (by rw [← HRR.out]; unfold viewR; rw [HER.out, HE.out]; rfl)
      clear hk
      have c0 := HL6.out.cell 0
      have c1 := HL6.out.cell 1
      have f0 := HL6.out.free 0
      have f1 := HL6.out.free 1
      simp at c0 c1
      go_wp2
      have hN := (HL6.out.set 0 (.int .i64 0)).set 1 (.slice none 0 0)
      have n0 := hN.cell 0
      have n1 := hN.cell 1
      simp at n0 n1
      refine bodyPost_ret (v := .tuple #[.agg #[.int .i64 0, .slice none 0 0], .int .i64 1]) (by simp [results, Try.results31, go_sem, n0, n1]) rfl ⟨_, by rw [HR.out, HE.out], by rw [HR.out]; exact islots_nil _ _, (HW6.out.setCell (by show w.heap.size ≤ w.heap.size + 1 + 1; omega) _).setCell (by show w.heap.size ≤ w.heap.size + 1 + 1; omega) _⟩
    · have HK := Lib.hid hk
      have HV1 : Hid (viewOk f lines c = (decide (lines.length = f.lots.length) && (!anyRow lines (fun l => !lineB l) lines.length && ((diffB c && allB c officeB) && srtB c)))) := Lib.hid (by unfold viewOk; rw [hk]; rfl)
      clear hk
      obtain ⟨z6, r6⟩ := HX6.out
      by_cases hll : lines.length = f.lots.length
      · have hll' : ((lines.length : Int) != (f.lots.length : Int)) = false := by rw [hll]; simp
        have HV2 : Hid (viewOk f lines c = (!anyRow lines (fun l => !lineB l) lines.length && ((diffB c && allB c officeB) && srtB c))) := Lib.hid (by rw [HV1.out, decide_eq_true hll]; rfl)
        have HLL := Lib.hid hll
        clear hll
        have n6 := HN6.out.cell
        have y6 := HY6.out.cell
        go_wp2_with fail
        refine (containsrow_any B w6 _ lines w5.heap.size (HM.out.below HW6.out hB) (by have := HW6.out.size; omega) HN6.out.lt n6).mono ?_
        rintro e w7 ⟨rfl, hb7⟩
        have HX7 := Lib.hid (HX6.out.ext hb7)
        have HY7 := Lib.hid (HY6.out.ext hb7)
        have HL7 := Lib.hid (HL6.out.ext hb7)
        have HN7 := Lib.hid (HN6.out.ext hb7)
        have HW7 : Hid (Below w.heap.size w w7) := Lib.hid (HW6.out.trans (hb7.mono HW6.out.size))
        clear hb7 n6 y6 z6 r6
        cases hrw : anyRow lines (fun l => !lineB l) lines.length
        · have HV3 : Hid (viewOk f lines c = ((diffB c && allB c officeB) && srtB c)) := Lib.hid (by rw [HV2.out, hrw]; rfl)
          clear hrw
          have n7 := HN7.out.cell
          have y7 := HY7.out.cell
          go_wp2_with fail
          refine (fdifferent_any B w7 _ c 61 #[] officeB (HC.out.below HW7.out hB) (by have := HW7.out.size; omega) (office_ok w7)).mono ?_
          rintro e w8 ⟨rfl, hb8⟩
          have HX8 := Lib.hid (HX7.out.ext hb8)
          have HY8 := Lib.hid (HY7.out.ext hb8)
          have HL8 := Lib.hid (HL7.out.ext hb8)
          have HN8 := Lib.hid (HN7.out.ext hb8)
          have HW8 : Hid (Below w.heap.size w w8) := Lib.hid (HW7.out.trans (hb8.mono HW7.out.size))
          clear hb8 n7 y7
          cases hdf : (diffB c && allB c officeB)
          · have HE : Hid (ER = 1) := Lib.hid (by rw [HVE.out, HV3.out, hdf]; rfl)
            have HR : Hid (RR = ⟨0, []⟩) := Lib.hid (by rw [← HRR.out]; unfold viewR; rw [HER.out, HE.out]; rfl)
            clear hdf
            have c0 := HL8.out.cell 0
            have c1 := HL8.out.cell 1
            have f0 := HL8.out.free 0
            have f1 := HL8.out.free 1
            simp at c0 c1
            go_wp2
            have hN := (HL8.out.set 0 (.int .i64 0)).set 1 (.slice none 0 0)
            have n0 := hN.cell 0
            have n1 := hN.cell 1
            simp at n0 n1
            refine bodyPost_ret (v := .tuple #[.agg #[.int .i64 0, .slice none 0 0], .int .i64 1]) (by simp [results, Try.results31, go_sem, n0, n1]) rfl ⟨_, by rw [HR.out, HE.out], by rw [HR.out]; exact islots_nil _ _, (HW8.out.setCell (by show w.heap.size ≤ w.heap.size + 1 + 1; omega) _).setCell (by show w.heap.size ≤ w.heap.size + 1 + 1; omega) _⟩
          · have HV4 : Hid (viewOk f lines c = srtB c) := Lib.hid (by rw [HV3.out, hdf]; rfl)
            clear hdf
            have y8 := HY8.out.cell
            go_wp2_with fail
            refine (sorted_any B w8 _ c (HC.out.below HW8.out hB)).mono ?_
            rintro e w9 ⟨rfl, hd9⟩
            have hb9 := hd9.below w8.heap.size
            have HX9 := Lib.hid (HX8.out.ext hb9)
            have HY9 := Lib.hid (HY8.out.ext hb9)
            have HL9 := Lib.hid (HL8.out.ext hb9)
            have HW9 : Hid (Below w.heap.size w w9) := Lib.hid (HW8.out.trans (hb9.mono HW8.out.size))
            clear hb9 y8 hd9
            cases hsr : srtB c
            · have HE : Hid (ER = 1) := Lib.hid (by rw [HVE.out, HV4.out, hsr]; rfl)
              have HR : Hid (RR = ⟨0, []⟩) := Lib.hid (by rw [← HRR.out]; unfold viewR; rw [HER.out, HE.out]; rfl)
              clear hsr
              have c0 := HL9.out.cell 0
              have c1 := HL9.out.cell 1
              have f0 := HL9.out.free 0
              have f1 := HL9.out.free 1
              simp at c0 c1
              go_wp2
              have hN := (HL9.out.set 0 (.int .i64 0)).set 1 (.slice none 0 0)
              have n0 := hN.cell 0
              have n1 := hN.cell 1
              simp at n0 n1
              refine bodyPost_ret (v := .tuple #[.agg #[.int .i64 0, .slice none 0 0], .int .i64 1]) (by simp [results, Try.results31, go_sem, n0, n1]) rfl ⟨_, by rw [HR.out, HE.out], by rw [HR.out]; exact islots_nil _ _, (HW9.out.setCell (by show w.heap.size ≤ w.heap.size + 1 + 1; omega) _).setCell (by show w.heap.size ≤ w.heap.size + 1 + 1; omega) _⟩
            · have HE : Hid (ER = 0) := Lib.hid (by rw [HVE.out, HV4.out, hsr]; rfl)
              have HR : Hid (RR = viewF f lines c) := Lib.hid (by rw [← HRR.out]; unfold viewR; rw [HER.out, HE.out]; rfl)
              clear hsr
              obtain ⟨z9, r9⟩ := HX9.out
              have c0 := HL9.out.cell 0
              have c1 := HL9.out.cell 1
              have f0 := HL9.out.free 0
              have f1 := HL9.out.free 1
              simp at c0 c1
              have HZ9 : Hid (w.heap.size + 1 + 1 < w9.heap.size) := Lib.hid HL9.out.lt
              have HVR : Hid (ViewRel w w9 f lines c (.slice a2 c.length cap2) (.int .i64 (0 : Nat)) (w9.setCell ⟨w.heap.size + 1 + 1, 0, none⟩ (.int .i64 f.senders))) := Lib.hid (by
                refine ⟨0, .slice none 0 0, by omega, rfl, ?_, OwnLots.nil _ _, fun j hj => by simp [Value.ownBlock] at hj, HY9.out.grown (grown_setCell w9 ⟨w.heap.size + 1 + 1, 0, none⟩ (.int .i64 f.senders)) (by simp), HW9.out.setCell (by show w.heap.size ≤ w.heap.size + 1 + 1; omega) _, by simp [World.setCell]⟩
                have h := HL9.out.set 0 (.int .i64 f.senders)
                simpa using h)
              go_wp2
              clear z9 r9 c0 c1 f0 f1
              go_loopw [56] (fun vi wr => ViewRel w w9 f lines c (.slice a2 c.length cap2) vi wr) (fun vi _ => f.lots.length - (intOf vi).toNat)
              case atStart => exact HVR.out
              case round =>
                obtain ⟨k, vL, hk, rfl, hbt, hvL, hrw, hby, hbr, hsz⟩ := hrel
                have HBT := Lib.hid hbt
                have HVL0 := Lib.hid hvL
                have HRW := Lib.hid hrw
                have HBY := Lib.hid hby
                have HBR := Lib.hid hbr
                have HSZ := Lib.hid hsz
                clear hbt hvL hrw hby hbr hsz
                by_cases hlt : k < f.lots.length
                · have hlt1 : k < lines.length := by have := HLL.out; omega
                  obtain rfl : a = some ⟨b, off, none⟩ := by rcases HA.out with ha | ha; exact ha; omega
                  obtain rfl : a1 = some ⟨b1, off1, none⟩ := by rcases HA1.out with ha | ha; exact ha; omega
                  obtain ⟨vi, vk, vp, hc1, hc2, hc3, hlot⟩ := HCL.out k hlt
                  obtain ⟨vr, hcr, hrow⟩ := HCM.out k hlt1
                  have HROW := Lib.hid hrow
                  have HLOT0 := Lib.hid hlot
                  have e1 := (HBR.out.cell (p := ⟨b, off + k * 3, none⟩) (by have := hc1.1; show b < _; omega)).trans hc1.2
                  have e2 := (HBR.out.cell (p := ⟨b, off + k * 3 + 1, none⟩) (by have := hc1.1; show b < _; omega)).trans hc2.2
                  have e3 := (HBR.out.cell (p := ⟨b, off + k * 3 + 2, none⟩) (by have := hc1.1; show b < _; omega)).trans hc3.2
                  have e4 := (HBR.out.cell (p := ⟨b1, off1 + k, none⟩) (by have := hcr.1; show b1 < _; omega)).trans hcr.2
                  have hbl : b < wr.heap.size := by have := hc1.1; have := HBR.out.size; omega
                  have hbl1 : b1 < wr.heap.size := by have := hcr.1; have := HBR.out.size; omega
                  have HS : Hid (viewTo f lines c (k + 1) = viewTo f lines c k ++ [hideLot (strB (rowAt lines k) c) (lotAt f.lots k)]) := Lib.hid rfl
                  obtain ⟨dl, hdl⟩ : ∃ d, lotAt f.lots k = d := ⟨_, rfl⟩
                  rw [hdl] at HS HLOT0
                  obtain ⟨_, hvk, _⟩ := HLOT0.out
                  subst hvk
                  clear hc1 hc2 hc3 hlot hcr hrow hdl
                  cases hst : strB (rowAt lines k) c
                  all_goals
                    rw [hst] at HS
                    have HST : Hid (anyB (rowAt lines k) (fun n => !hasB c n) = _) := Lib.hid hst
                    clear hst
                    obtain ⟨bvi, ovi, cvi, ⟨avi, rfl, _⟩, _⟩ := HLOT0.out.1
                    obtain ⟨bvp, ovp, cvp, ⟨avp, rfl, _⟩, _⟩ := HLOT0.out.2.2
                    go_wp2_with fail
                    refine (containsf_any B (wr.alloc _) vr (rowAt lines k) 65 #[] #[.pointer (some ⟨w.heap.size + 1, 0, none⟩)] (fun _ => True) (fun n => !hasB c n) (HROW.out.below (HBR.out.alloc HBR.out.size _) hB) (by have := HBR.out.size; simp; omega) (stranger_ok B (wr.alloc _) _ c (w.heap.size + 1) (HC.out.below (HBR.out.alloc HBR.out.size _) hB) (by have := HBR.out.size; simp; omega) (HBY.out.alloc _)) (fun _ _ => trivial)).mono ?_
                    rintro e w6' ⟨rfl, hb6⟩
                    rw [HST.out]
                    have HB6 : Hid (Below w.heap.size w w6') := Lib.hid ((HBR.out.alloc HBR.out.size _).trans (hb6.mono (by have := HBR.out.size; simp; omega)))
                    have HL6' := Lib.hid ((HBT.out.alloc _).ext hb6)
                    have HY6' := Lib.hid ((HBY.out.alloc _).ext hb6)
                    have HC6 := Lib.hid ((CellsN.new wr #[.slice avi dl.ins.length cvi, .bool dl.known, .slice avp dl.perm.length cvp] 39).ext hb6)
                    have HO6 := Lib.hid ((HVL0.out.below (box_below' wr _) HBR.out.size).below hb6 (by have := HBR.out.size; simp; omega))
                    have HLT6 := Lib.hid ((HLOT0.out.below HB6.out hB).mono hB)
                    have HZ6 : Hid (w9.heap.size ≤ w6'.heap.size) := Lib.hid (by have := HSZ.out; have := hb6.size; simp at this; omega)
                    have HZ7 : Hid (wr.heap.size < w6'.heap.size) := Lib.hid (by have := hb6.size; simp at this; omega)
                    have HZ8 : Hid (w9.heap.size ≤ wr.heap.size) := HSZ
                    clear hb6
                  · have HZW : Hid (w9.heap.size ≤ w6'.heap.size) := HZ6
                    have d0 := HC6.out.cell 0
                    have d1 := HC6.out.cell 1
                    have d2 := HC6.out.cell 2
                    have t1 := HL6'.out.cell 1
                    have g1 := HL6'.out.free 1
                    simp at d0 d1 d2 t1
                    have HSRC : Hid (SrcLots w.heap.size (w6'.alloc (.cells #[.slice avi dl.ins.length cvi, .bool dl.known, .slice avp dl.perm.length cvp] 39)) (.slice (some ⟨w6'.heap.size, 0, none⟩) 1 1) [hideLot false dl]) := Lib.hid (
                      srcLots_one ((CellsN.new w6' #[.slice avi dl.ins.length cvi, .bool dl.known, .slice avp dl.perm.length cvp] 39).cell 0) ((CellsN.new w6' #[.slice avi dl.ins.length cvi, .bool dl.known, .slice avp dl.perm.length cvp] 39).cell 1) ((CellsN.new w6' #[.slice avi dl.ins.length cvi, .bool dl.known, .slice avp dl.perm.length cvp] 39).cell 2) (HLT6.out.below (box_below' w6' _) HB6.out.size))
                    have HVL := Lib.hid (viewTo_len f lines c k)
                    have HNE : Hid (∀ j, j < w9.heap.size → some j ≠ vL.ownBlock) := Lib.hid fun j hj e => by have := HRW.out _ e.symm; omega
                    go_wp2_with (at_builtin; refine append_lotsA rfl (.tmp 70) (.tmp 72) rfl (C := w.heap.size) (v := vL) (xs := viewTo f lines c k) (ys := [hideLot false dl]) rfl (HO6.out.below (box_below' w6' _) HB6.out.size) rfl HSRC.out (by rw [HVL.out]; simp; omega) (by have := HB6.out.size; simp; omega) ?_; intro v8 w8 ho8 hg8 hat8; have HO8 := Lib.hid ho8; have HG8 := Lib.hid hg8; have HAT8 := Lib.hid hat8; obtain ⟨a8, n8, c8, rfl⟩ := ho8.form'; have q1 : w8.cell? ⟨w.heap.size + 1 + 1, 1, none⟩ = some vL := ((HG8.out.cell_far ⟨w.heap.size + 1 + 1, 1, none⟩ (by have := HL6'.out.lt; simp; omega) (HNE.out _ HZ9.out)).trans ((box_below' w6' _).cell (p := ⟨w.heap.size + 1 + 1, 1, none⟩) HL6'.out.lt)).trans t1; have q2 : w8.frozen? ⟨w.heap.size + 1 + 1, 1, none⟩ = false := ((HG8.out.frozen_far ⟨w.heap.size + 1 + 1, 1, none⟩ (by have := HL6'.out.lt; simp; omega) (HNE.out _ HZ9.out)).trans ((box_below' w6' _).frozen (p := ⟨w.heap.size + 1 + 1, 1, none⟩) HL6'.out.lt)).trans g1; clear ho8 hg8 hat8)
                    go_roundw
                    case rel =>
                      have hne : ∀ j, j < w9.heap.size → some j ≠ vL.ownBlock := fun j hj e => by have := HRW.out _ e.symm; omega
                      have hz := HZ6.out
                      have hz9 := HZ9.out
                      have hz7 := HZW.out
                      refine ⟨k + 1, .slice a8 n8 c8, by omega, by go_num, ?_, ?_, ?_, ?_, ?_, ?_⟩
                      · have h := ((HL6'.out.alloc _).grown HG8.out (hne _ (by omega))).set 1 (.slice a8 n8 c8)
                        simpa using h
                      · rw [HS.out]
                        refine HO8.out.kept (grown_setCell w8 ⟨w.heap.size + 1 + 1, 1, none⟩ (.slice a8 n8 c8)) (fun j hj => by simp at hj; omega) (by have := HB6.out.size; have := HG8.out.size; simp at this; omega) (Or.inr fun e => ?_)
                        rcases HAT8.out with h | h
                        · rw [h] at e; exact hne (w.heap.size + 1 + 1) (by omega) e.symm
                        · rw [h] at e; simp at e; omega
                      · intro j hj
                        rcases HAT8.out with h | h
                        · exact HRW.out j (by rw [← h]; exact hj)
                        · rw [h] at hj; simp at hj; omega
                      · exact ((HY6'.out.alloc _).grown HG8.out (hne _ (by omega))).grown (grown_setCell w8 ⟨w.heap.size + 1 + 1, 1, none⟩ (.slice a8 n8 c8)) (by simp)
                      · exact ((HB6.out.alloc HB6.out.size _).grown HG8.out (by have := HB6.out.size; simp; omega) (fun j hj => by have := HRW.out j hj; omega)).setCell (by show w.heap.size ≤ w.heap.size + 1 + 1; omega) _
                      · have := HG8.out.size; simp [World.setCell] at this ⊢; omega
                    case measure => simp [intOf]; omega
                  · have u1 := HC6.out.cell 1
                    have u2 := HC6.out.cell 2
                    have u3 := HC6.out.free 1
                    have u4 := HC6.out.free 2
                    simp at u1 u2
                    have t0 := HL6'.out.cell 1
                    have hcs := (HC6.out.set 1 (.bool false)).set 2 (.slice none 0 0)
                    have hg7 := grown_setCell w6' ⟨wr.heap.size, 1, none⟩ (.bool false)
                    have hg7' := grown_setCell (w6'.setCell ⟨wr.heap.size, 1, none⟩ (.bool false)) ⟨wr.heap.size, 2, none⟩ (.slice none 0 0)
                    obtain ⟨w7, hw7⟩ : ∃ W, (w6'.setCell ⟨wr.heap.size, 1, none⟩ (.bool false)).setCell ⟨wr.heap.size, 2, none⟩ (.slice none 0 0) = W := ⟨_, rfl⟩
                    rw [hw7] at hcs hg7'
                    have hg67 : w6'.grownBy w7 (some wr.heap.size) := grown_trans hg7 hg7'
                    have HG67 := Lib.hid hg67
                    have HC7 : Hid (CellsN w7 wr.heap.size #[.slice avi dl.ins.length cvi, .bool false, .slice none 0 0]) := Lib.hid (by simpa using hcs)
                    have hsz0 : w.heap.size + 1 + 1 < wr.heap.size := by have := HSZ.out; have := HZ9.out; omega
                    have HL7' := Lib.hid (HL6'.out.grown hg67 (by simp; omega))
                    have HY7' := Lib.hid (HY6'.out.grown hg67 (by simp; omega))
                    have HB7 : Hid (Below w.heap.size w w7) := Lib.hid (HB6.out.grown hg67 HB6.out.size (fun j hj => by simp at hj; omega))
                    have HO7 : Hid (OwnLots w.heap.size w7 vL (viewTo f lines c k)) := Lib.hid (HO6.out.kept hg67 (fun j hj => by simp at hj; omega) HB6.out.size (Or.inr fun e => by have := HVL0.out.rowlt _ e; omega))
                    have HLT7 : Hid (IsLot w.heap.size w7 (.slice avi dl.ins.length cvi) (.bool false) (.slice none 0 0) (hideLot true dl)) := Lib.hid ⟨((HLOT0.out.below HB7.out hB).mono hB).1, rfl, IsInts.nil0 _ _⟩
                    have HZW : Hid (w9.heap.size ≤ w7.heap.size) := Lib.hid (by have := HG67.out.size; have := HZ6.out; omega)
                    clear hcs hg7 hg7' hg67
                    have d0 := HC7.out.cell 0
                    have d1 := HC7.out.cell 1
                    have d2 := HC7.out.cell 2
                    have t1 := HL7'.out.cell 1
                    have g1 := HL7'.out.free 1
                    simp at d0 d1 d2 t1
                    have HSRC : Hid (SrcLots w.heap.size (w7.alloc (.cells #[.slice avi dl.ins.length cvi, .bool false, .slice none 0 0] 39)) (.slice (some ⟨w7.heap.size, 0, none⟩) 1 1) [hideLot true dl]) := Lib.hid (
                      srcLots_one ((CellsN.new w7 #[.slice avi dl.ins.length cvi, .bool false, .slice none 0 0] 39).cell 0) ((CellsN.new w7 #[.slice avi dl.ins.length cvi, .bool false, .slice none 0 0] 39).cell 1) ((CellsN.new w7 #[.slice avi dl.ins.length cvi, .bool false, .slice none 0 0] 39).cell 2) (HLT7.out.below (box_below' w7 _) HB7.out.size))
                    have HVL := Lib.hid (viewTo_len f lines c k)
                    have HNE : Hid (∀ j, j < w9.heap.size → some j ≠ vL.ownBlock) := Lib.hid fun j hj e => by have := HRW.out _ e.symm; omega
                    go_wp2_with (at_builtin; refine append_lotsA rfl (.tmp 70) (.tmp 72) rfl (C := w.heap.size) (v := vL) (xs := viewTo f lines c k) (ys := [hideLot true dl]) rfl (HO7.out.below (box_below' w7 _) HB7.out.size) rfl HSRC.out (by rw [HVL.out]; simp; omega) (by have := HB7.out.size; simp; omega) ?_; intro v8 w8 ho8 hg8 hat8; have HO8 := Lib.hid ho8; have HG8 := Lib.hid hg8; have HAT8 := Lib.hid hat8; obtain ⟨a8, n8, c8, rfl⟩ := ho8.form'; have q1 : w8.cell? ⟨w.heap.size + 1 + 1, 1, none⟩ = some vL := ((HG8.out.cell_far ⟨w.heap.size + 1 + 1, 1, none⟩ (by have := HL7'.out.lt; simp; omega) (HNE.out _ HZ9.out)).trans ((box_below' w7 _).cell (p := ⟨w.heap.size + 1 + 1, 1, none⟩) HL7'.out.lt)).trans t1; have q2 : w8.frozen? ⟨w.heap.size + 1 + 1, 1, none⟩ = false := ((HG8.out.frozen_far ⟨w.heap.size + 1 + 1, 1, none⟩ (by have := HL7'.out.lt; simp; omega) (HNE.out _ HZ9.out)).trans ((box_below' w7 _).frozen (p := ⟨w.heap.size + 1 + 1, 1, none⟩) HL7'.out.lt)).trans g1; clear ho8 hg8 hat8)
                    go_roundw
                    case rel =>
                      have hne : ∀ j, j < w9.heap.size → some j ≠ vL.ownBlock := fun j hj e => by have := HRW.out _ e.symm; omega
                      have hz := HZ6.out
                      have hz9 := HZ9.out
                      have hz7 := HZW.out
                      refine ⟨k + 1, .slice a8 n8 c8, by omega, by go_num, ?_, ?_, ?_, ?_, ?_, ?_⟩
                      · have h := ((HL7'.out.alloc _).grown HG8.out (hne _ (by omega))).set 1 (.slice a8 n8 c8)
                        simpa using h
                      · rw [HS.out]
                        refine HO8.out.kept (grown_setCell w8 ⟨w.heap.size + 1 + 1, 1, none⟩ (.slice a8 n8 c8)) (fun j hj => by simp at hj; omega) (by have := HB7.out.size; have := HG8.out.size; simp at this; omega) (Or.inr fun e => ?_)
                        rcases HAT8.out with h | h
                        · rw [h] at e; exact hne (w.heap.size + 1 + 1) (by omega) e.symm
                        · rw [h] at e; simp at e; omega
                      · intro j hj
                        rcases HAT8.out with h | h
                        · exact HRW.out j (by rw [← h]; exact hj)
                        · rw [h] at hj; simp at hj; omega
                      · exact ((HY7'.out.alloc _).grown HG8.out (hne _ (by omega))).grown (grown_setCell w8 ⟨w.heap.size + 1 + 1, 1, none⟩ (.slice a8 n8 c8)) (by simp)
                      · exact ((HB7.out.alloc HB7.out.size _).grown HG8.out (by have := HB7.out.size; simp; omega) (fun j hj => by have := HRW.out j hj; omega)).setCell (by show w.heap.size ≤ w.heap.size + 1 + 1; omega) _
                      · have := HG8.out.size; simp [World.setCell] at this ⊢; omega
                    case measure => simp [intOf]; omega
                · obtain rfl : k = f.lots.length := by omega
                  have t0 := HBT.out.cell 0
                  have t1 := HBT.out.cell 1
                  have g0 := HBT.out.free 0
                  have g1 := HBT.out.free 1
                  simp at t0 t1
                  obtain ⟨aL, nL, cL, rfl⟩ := HVL0.out.form'
                  go_wp2
                  have hN := (HBT.out.set 0 (.int .i64 f.senders)).set 1 (.slice aL nL cL)
                  have n0 := hN.cell 0
                  have n1 := hN.cell 1
                  simp at n0 n1
                  have hg := grown_trans (grown_setCell wr ⟨w.heap.size + 1 + 1, 0, none⟩ (.int .i64 f.senders)) (grown_setCell (wr.setCell ⟨w.heap.size + 1 + 1, 0, none⟩ (.int .i64 f.senders)) ⟨w.heap.size + 1 + 1, 1, none⟩ (.slice aL nL cL))
                  have hbN : Below w.heap.size w _ := (HBR.out.setCell (p := ⟨w.heap.size + 1 + 1, 0, none⟩) (by show w.heap.size ≤ w.heap.size + 1 + 1; omega) (.int .i64 f.senders)).setCell (p := ⟨w.heap.size + 1 + 1, 1, none⟩) (by show w.heap.size ≤ w.heap.size + 1 + 1; omega) (.slice aL nL cL)
                  refine bodyPost_ret (v := .tuple #[.agg #[.int .i64 f.senders, .slice aL nL cL], .int .i64 0]) (by simp [results, Try.results31, go_sem, n0, n1]) rfl ⟨.slice aL nL cL, by rw [HR.out, HE.out]; rfl, ?_, hbN⟩
                  rw [HR.out]
                  exact (HVL0.out.kept hg (fun j hj => by simp at hj; omega) HBR.out.size (Or.inr fun e => by have h1 := HRW.out (w.heap.size + 1 + 1) e; have h2 := HZ9.out; omega)).isLots hbN.size
        · have HE : Hid (ER = 1) := Lib.hid (by rw [HVE.out, HV2.out, hrw]; rfl)
          have HR : Hid (RR = ⟨0, []⟩) := Lib.hid (by rw [← HRR.out]; unfold viewR; rw [HER.out, HE.out]; rfl)
          clear hrw
          have c0 := HL7.out.cell 0
          have c1 := HL7.out.cell 1
          have f0 := HL7.out.free 0
          have f1 := HL7.out.free 1
          simp at c0 c1
          go_wp2
          have hN := (HL7.out.set 0 (.int .i64 0)).set 1 (.slice none 0 0)
          have n0 := hN.cell 0
          have n1 := hN.cell 1
          simp at n0 n1
          refine bodyPost_ret (v := .tuple #[.agg #[.int .i64 0, .slice none 0 0], .int .i64 1]) (by simp [results, Try.results31, go_sem, n0, n1]) rfl ⟨_, by rw [HR.out, HE.out], by rw [HR.out]; exact islots_nil _ _, (HW7.out.setCell (by show w.heap.size ≤ w.heap.size + 1 + 1; omega) _).setCell (by show w.heap.size ≤ w.heap.size + 1 + 1; omega) _⟩
      · have hll' : ((lines.length : Int) != (f.lots.length : Int)) = true := by simp; omega
        have HE : Hid (ER = 1) := Lib.hid (by rw [HVE.out, HV1.out, decide_eq_false hll]; rfl)
        have HR : Hid (RR = ⟨0, []⟩) := Lib.hid (by rw [← HRR.out]; unfold viewR; rw [HER.out, HE.out]; rfl)
        clear hll
        have c0 := HL6.out.cell 0
        have c1 := HL6.out.cell 1
        have f0 := HL6.out.free 0
        have f1 := HL6.out.free 1
        simp at c0 c1
        go_wp2
        have hN := (HL6.out.set 0 (.int .i64 0)).set 1 (.slice none 0 0)
        have n0 := hN.cell 0
        have n1 := hN.cell 1
        simp at n0 n1
        refine bodyPost_ret (v := .tuple #[.agg #[.int .i64 0, .slice none 0 0], .int .i64 1]) (by simp [results, Try.results31, go_sem, n0, n1]) rfl ⟨_, by rw [HR.out, HE.out], by rw [HR.out]; exact islots_nil _ _, (HW6.out.setCell (by show w.heap.size ≤ w.heap.size + 1 + 1; omega) _).setCell (by show w.heap.size ≤ w.heap.size + 1 + 1; omega) _⟩
  · have HE : Hid (ER = checkE f) := Lib.hid (by rw [← HER.out]; unfold viewE; rw [if_pos h1])
    have HR : Hid (RR = ⟨0, []⟩) := Lib.hid (by rw [← HRR.out]; unfold viewR; rw [if_neg (by rw [HER.out, HE.out]; exact h1)])
    have h1' : (checkE f != 0) = true := by simpa using h1
    have c0 := HL5.out.cell 0
    have c1 := HL5.out.cell 1
    have f0 := HL5.out.free 0
    have f1 := HL5.out.free 1
    simp at c0 c1
    clear h1
    go_wp2
    have hN := (HL5.out.set 0 (.int .i64 0)).set 1 (.slice none 0 0)
    have n0 := hN.cell 0
    have n1 := hN.cell 1
    simp at n0 n1
    refine bodyPost_ret (v := .tuple #[.agg #[.int .i64 0, .slice none 0 0], .int .i64 (checkE f)]) (by simp [results, Try.results31, go_sem, n0, n1]) rfl ⟨_, by rw [HR.out, HE.out], by rw [HR.out]; exact islots_nil _ _, (HW5.out.setCell (by show w.heap.size ≤ w.heap.size + 1 + 1; omega) _).setCell (by show w.heap.size ≤ w.heap.size + 1 + 1; omega) _⟩

end Go.Proofs.Ythekefnocphcdaa

set_option linter.unusedVariables false

set_option linter.unusedSimpArgs false

namespace Go.Proofs.Ythekefnocphcdaa

/-- the lot and the place where a spot goes, among the first k lots -/
def locTo (f : Flow) (x : Int) : Nat → Option (Nat × Nat)
  | 0 => none
  | k + 1 => if hasB (lotAt f.lots k).ins x then some (k, (lotAt f.lots k).ins.idxOf x) else locTo f x k

/-- where a letter is behind k lots -/
def spotAt (f : Flow) (s : Int) : Nat → Int
  | 0 => s
  | k + 1 => if hasB (lotAt f.lots k).ins (spotAt f s k) then beforeI f k + nth (lotAt f.lots k).perm ((lotAt f.lots k).ins.idxOf (spotAt f s k)) else spotAt f s k

/-- the first unknown lot to which a letter comes, among the first k lots; -1 if there is none -/
def unkTo (f : Flow) (s : Int) : Nat → Int
  | 0 => -1
  | k + 1 => if 0 ≤ unkTo f s k then unkTo f s k else if hasB (lotAt f.lots k).ins (spotAt f s k) && !(lotAt f.lots k).known then (k : Int) else -1

def unkI (f : Flow) (s : Int) : Int := unkTo f s f.lots.length

/-- the lots to which a letter comes, up to an unknown one -/
def visTo (f : Flow) (s : Int) : Nat → List Nat
  | 0 => []
  | k + 1 => if 0 ≤ unkTo f s k then visTo f s k else if hasB (lotAt f.lots k).ins (spotAt f s k) then visTo f s k ++ [k] else visTo f s k

def visAt (l : List Nat) (i : Nat) : Nat := l.getD i 0

theorem unkTo_lt (f : Flow) (s : Int) : ∀ k, -1 ≤ unkTo f s k ∧ unkTo f s k < k
  | 0 => by simp [unkTo]
  | k + 1 => by
    have ih := unkTo_lt f s k
    simp only [unkTo]
    split
    · omega
    · split <;> omega

theorem unkTo_stay {f : Flow} {s : Int} {k m : Nat} (h : 0 ≤ unkTo f s k) (hk : k ≤ m) : unkTo f s m = unkTo f s k := by
  induction hk with
  | refl => rfl
  | @step m _ ih => simp only [unkTo]; rw [if_pos (by rw [ih]; exact h), ih]

theorem visTo_stay {f : Flow} {s : Int} {k m : Nat} (h : 0 ≤ unkTo f s k) (hk : k ≤ m) : visTo f s m = visTo f s k := by
  induction hk with
  | refl => rfl
  | @step m hm ih => simp only [visTo]; rw [if_pos (by rw [unkTo_stay h hm]; exact h), ih]

theorem visTo_prefix (f : Flow) (s : Int) {k m : Nat} (h : k ≤ m) : ∃ t, visTo f s m = visTo f s k ++ t := by
  induction h with
  | refl => exact ⟨[], by simp⟩
  | @step m _ ih =>
    obtain ⟨t, ht⟩ := ih
    simp only [visTo]
    split
    · exact ⟨t, ht⟩
    · split
      · exact ⟨t ++ [m], by rw [ht, List.append_assoc]⟩
      · exact ⟨t, ht⟩

theorem visTo_lt (f : Flow) (s : Int) : ∀ k, ∀ j ∈ visTo f s k, j < k
  | 0, j, h => by simp [visTo] at h
  | k + 1, j, h => by
    have ih := visTo_lt f s k
    simp only [visTo] at h
    split at h
    · have := ih j h; omega
    · split at h
      · rcases List.mem_append.1 h with h | h
        · have := ih j h; omega
        · simp at h; omega
      · have := ih j h; omega

/-- a lot that is visited and not known is the answer -/
theorem vis_unknown (f : Flow) (s : Int) : ∀ k, ∀ j ∈ visTo f s k, (lotAt f.lots j).known = false → unkTo f s k = j
  | 0, j, h, _ => by simp [visTo] at h
  | k + 1, j, h, hj => by
    have ih := vis_unknown f s k
    have hl := unkTo_lt f s k
    simp only [visTo] at h
    simp only [unkTo]
    split at h
    · rename_i h0
      rw [if_pos h0]
      exact ih j h hj
    · rename_i h0
      rw [if_neg h0]
      split at h
      · rename_i h1
        rcases List.mem_append.1 h with h | h
        · have := ih j h hj; omega
        · simp at h
          subst h
          rw [h1, hj]
          rfl
      · have := ih j h hj; omega

/-- where all visited lots are known there is none -/
theorem vis_known (f : Flow) (s : Int) : ∀ k, (∀ j ∈ visTo f s k, (lotAt f.lots j).known = true) → unkTo f s k = -1
  | 0, _ => rfl
  | k + 1, h => by
    have ih := vis_known f s k
    simp only [visTo] at h
    simp only [unkTo]
    split at h
    · rename_i h0
      have := ih h
      omega
    · rename_i h0
      rw [if_neg h0]
      split at h
      · rename_i h1
        have := h k (by simp)
        rw [this]
        simp
      · rename_i h1
        rw [show hasB (lotAt f.lots k).ins (spotAt f s k) = false by simpa using h1]
        rfl

theorem ins_lt {f : Flow} {m k : Nat} (h : lotsB f m = true) (hk : k < m) {x : Int} (hx : hasB (lotAt f.lots k).ins x = true) : 0 ≤ x ∧ x < beforeI f k ∧ goneB f x k = false :=
  (lotB_facts (lotsB_lot h hk)).2.1 x (hasB_iff.1 hx)

theorem goneB_has {f : Flow} {x : Int} {j k : Nat} (h : hasB (lotAt f.lots j).ins x = true) (hj : j < k) : goneB f x k = true :=
  goneB_of (k := j + 1) (by simp [goneB, h]) hj

/-- each spot goes into one lot alone -/
theorem ins_one {f : Flow} {m j k : Nat} (h : lotsB f m = true) (hj : j < m) (hk : k < m) {x : Int} (h1 : hasB (lotAt f.lots j).ins x = true) (h2 : hasB (lotAt f.lots k).ins x = true) : j = k := by
  rcases Nat.lt_trichotomy j k with h3 | h3 | h3
  · have := (ins_lt h hk h2).2.2
    rw [goneB_has h1 h3] at this; cases this
  · exact h3
  · have := (ins_lt h hj h1).2.2
    rw [goneB_has h2 h3] at this; cases this

theorem locTo_none {f : Flow} {x : Int} : ∀ {m : Nat}, locTo f x m = none → ∀ j, j < m → hasB (lotAt f.lots j).ins x = false
  | 0, _, j, hj => by omega
  | m + 1, h, j, hj => by
    simp only [locTo] at h
    split at h
    · cases h
    · rename_i h1
      by_cases e : j = m
      · subst e; simpa using h1
      · exact locTo_none h j (by omega)

theorem locTo_in {f : Flow} {x : Int} {j i : Nat} : ∀ {m : Nat}, locTo f x m = some (j, i) → j < m ∧ hasB (lotAt f.lots j).ins x = true ∧ i = (lotAt f.lots j).ins.idxOf x
  | 0, h => by simp [locTo] at h
  | m + 1, h => by
    simp only [locTo] at h
    split at h
    · rename_i h1
      injection h with h
      injection h with h2 h3
      subst h2
      exact ⟨by omega, h1, h3.symm⟩
    · have := locTo_in h
      exact ⟨by omega, this.2⟩

theorem perm_ge {f : Flow} {m k : Nat} (h : lotsB f m = true) (hk : k < m) (i : Nat) : 0 ≤ nth (lotAt f.lots k).perm i := by
  by_cases hi : i < (lotAt f.lots k).perm.length
  · have hl := lotsB_lot h hk
    cases hkn : (lotAt f.lots k).known
    · unfold lotB at hl
      simp only [hkn, Bool.and_eq_true, Bool.false_eq_true, if_false, decide_eq_true_eq] at hl
      rw [hl.2] at hi
      simp at hi
    · exact ((lotB_facts hl).2.2 hkn).2.2 _ (nth_mem hi) |>.1
  · unfold nth
    rw [List.getD_eq_getElem?_getD, List.getElem?_eq_none (by omega)]
    exact Int.le_refl _

/-- behind k lots a letter is at no spot that goes into one of them -/
theorem spotAt_not {f : Flow} {m : Nat} (h : lotsB f m = true) (s : Int) : ∀ k, k ≤ m → ∀ j, j < k → hasB (lotAt f.lots j).ins (spotAt f s k) = false
  | 0, _, j, hj => by omega
  | k + 1, hk, j, hj => by
    cases hh : hasB (lotAt f.lots j).ins (spotAt f s (k + 1)) with
    | false => rfl
    | true =>
    exfalso
    simp only [spotAt] at hh
    split at hh
    · have h1 := (ins_lt h (show j < m by omega) hh).2.1
      have h2 := beforeI_mono (f := f) (show j ≤ k by omega)
      have h3 := perm_ge h (show k < m by omega) ((lotAt f.lots k).ins.idxOf (spotAt f s k))
      omega
    · rename_i h0
      by_cases e : j = k
      · subst e; exact h0 hh
      · rw [spotAt_not h s k (by omega) j (by omega)] at hh; cases hh

/-- a letter stays as long as its spot goes into no lot -/
theorem spotAt_stay {f : Flow} {s : Int} {k m : Nat} (hk : k ≤ m) (h : ∀ j, k ≤ j → j < m → hasB (lotAt f.lots j).ins (spotAt f s k) = false) : spotAt f s m = spotAt f s k := by
  induction hk with
  | refl => rfl
  | @step m hm ih =>
    have e := ih (fun j h1 h2 => h j h1 (by omega))
    simp only [spotAt]
    rw [e, if_neg (by rw [h m hm (by omega)]; simp)]

theorem unkTo_stay' {f : Flow} {s : Int} {k m : Nat} (hk : k ≤ m) (h : ∀ j, k ≤ j → j < m → hasB (lotAt f.lots j).ins (spotAt f s k) = false) (h0 : ¬ 0 ≤ unkTo f s k) : unkTo f s m = -1 := by
  have hl := unkTo_lt f s k
  induction hk with
  | refl => omega
  | @step m hm ih =>
    have e := ih (fun j h1 h2 => h j h1 (by omega))
    have e2 := spotAt_stay hm (fun j h1 h2 => h j h1 (by omega))
    simp only [unkTo]
    rw [e, e2, h m hm (by omega)]
    rfl

theorem visTo_stay' {f : Flow} {s : Int} {k m : Nat} (hk : k ≤ m) (h : ∀ j, k ≤ j → j < m → hasB (lotAt f.lots j).ins (spotAt f s k) = false) (h0 : ¬ 0 ≤ unkTo f s k) : visTo f s m = visTo f s k := by
  induction hk with
  | refl => rfl
  | @step m hm ih =>
    have e := ih (fun j h1 h2 => h j h1 (by omega))
    have e2 := spotAt_stay hm (fun j h1 h2 => h j h1 (by omega))
    simp only [visTo]
    rw [e, e2, h m hm (by omega)]
    split <;> rfl

/-- the next lot to which a letter comes -/
theorem next_lot {f : Flow} {m : Nat} (h : lotsB f m = true) {s : Int} {k j : Nat} (hk : k ≤ m) (h0 : ¬ 0 ≤ unkTo f s k) (hj : j < m) (hx : hasB (lotAt f.lots j).ins (spotAt f s k) = true) :
    k ≤ j ∧ spotAt f s j = spotAt f s k ∧ ¬ 0 ≤ unkTo f s j ∧ visTo f s (j + 1) = visTo f s k ++ [j] := by
  have hkj : k ≤ j := by
    rcases Nat.lt_or_ge j k with h1 | h1
    · rw [spotAt_not h s k hk j h1] at hx; cases hx
    · exact h1
  have hno : ∀ i, k ≤ i → i < j → hasB (lotAt f.lots i).ins (spotAt f s k) = false := by
    intro i h1 h2
    cases hh : hasB (lotAt f.lots i).ins (spotAt f s k) with
    | false => rfl
    | true => have := ins_one h (show i < m by omega) hj hh hx; omega
  have e1 := spotAt_stay hkj hno
  have e2 := unkTo_stay' hkj hno h0
  have e3 := visTo_stay' hkj hno h0
  refine ⟨hkj, e1, by omega, ?_⟩
  simp only [visTo]
  rw [if_neg (by omega), e1, if_pos hx, e3]

theorem no_lot {f : Flow} {m : Nat} {s : Int} {k : Nat} (hk : k ≤ m) (h0 : ¬ 0 ≤ unkTo f s k) (hx : locTo f (spotAt f s k) m = none) : visTo f s m = visTo f s k :=
  visTo_stay' hk (fun j _ h2 => locTo_none hx j h2) h0

/-- an out of a lot comes to no lot that is not later -/
theorem unk_later {f : Flow} {m : Nat} (h : lotsB f m = true) {k : Nat} (hk : k < m) {s : Int} (hs : beforeI f k ≤ s) : unkTo f s m < 0 ∨ (k : Int) < unkTo f s m := by
  have key : ∀ q, q ≤ m → (q ≤ k + 1 → spotAt f s q = s ∧ unkTo f s q = -1) ∧ (unkTo f s q < 0 ∨ (k : Int) < unkTo f s q) := by
    intro q
    induction q with
    | zero => intro _; exact ⟨fun _ => ⟨rfl, rfl⟩, Or.inl (by simp [unkTo])⟩
    | succ q ih =>
      intro hq
      obtain ⟨i1, i2⟩ := ih (by omega)
      by_cases hle : q ≤ k
      · obtain ⟨j1, j2⟩ := i1 (by omega)
        have hno : hasB (lotAt f.lots q).ins s = false := by
          cases hh : hasB (lotAt f.lots q).ins s with
          | false => rfl
          | true =>
            have h1 := (ins_lt h (show q < m by omega) hh).2.1
            have h2 := beforeI_mono (f := f) hle
            omega
        have e1 : spotAt f s (q + 1) = s := by simp only [spotAt]; rw [j1, hno]; rfl
        have e2 : unkTo f s (q + 1) = -1 := by simp only [unkTo]; rw [j2, j1, hno]; rfl
        exact ⟨fun _ => ⟨e1, e2⟩, Or.inl (by omega)⟩
      · refine ⟨fun hc => by omega, ?_⟩
        simp only [unkTo]
        split
        · exact i2
        · split
          · right; omega
          · left; omega
  exact (key m (Nat.le_refl _)).2

/-- does none of the first i outs of a lot come to an unknown lot? -/
def lastTo (f : Flow) (k : Nat) : Nat → Bool
  | 0 => true
  | i + 1 => lastTo f k i && decide (unkI f (beforeI f k + i) < 0)

def lastB (f : Flow) (k : Nat) : Bool := lastTo f k (lotAt f.lots k).ins.length

/-- does one of the first i outs of lot k come to the unknown lot m? -/
def comesTo (f : Flow) (m k : Nat) : Nat → Bool
  | 0 => false
  | i + 1 => comesTo f m k i || (unkI f (beforeI f k + i) == (m : Int))

/-- is lot m reached from an unknown one of the first k lots? -/
def hitTo (f : Flow) (m : Nat) : Nat → Bool
  | 0 => false
  | k + 1 => hitTo f m k || (!(lotAt f.lots k).known && comesTo f m k (lotAt f.lots k).ins.length)

def firstB (f : Flow) (k : Nat) : Bool := !hitTo f k k

def lastL (f : Flow) : Nat → List Int
  | 0 => []
  | k + 1 => if !(lotAt f.lots k).known && lastB f k then lastL f k ++ [(k : Int)] else lastL f k

def firstL (f : Flow) : Nat → List Int
  | 0 => []
  | k + 1 => if !(lotAt f.lots k).known && firstB f k then firstL f k ++ [(k : Int)] else firstL f k

theorem lastL_mem (f : Flow) : ∀ k, ∀ x ∈ lastL f k, 0 ≤ x ∧ x < k
  | 0, x, h => by simp [lastL] at h
  | k + 1, x, h => by
    have ih := lastL_mem f k
    simp only [lastL] at h
    split at h
    · rcases List.mem_append.1 h with h | h
      · have := ih x h; omega
      · simp at h; omega
    · have := ih x h; omega

theorem firstL_mem (f : Flow) : ∀ k, ∀ x ∈ firstL f k, 0 ≤ x ∧ x < k
  | 0, x, h => by simp [firstL] at h
  | k + 1, x, h => by
    have ih := firstL_mem f k
    simp only [firstL] at h
    split at h
    · rcases List.mem_append.1 h with h | h
      · have := ih x h; omega
      · simp at h; omega
    · have := ih x h; omega

theorem lastL_len (f : Flow) : ∀ k, (lastL f k).length ≤ k
  | 0 => by simp [lastL]
  | k + 1 => by
    have := lastL_len f k
    simp only [lastL]
    split
    · simp; omega
    · omega

theorem firstL_len (f : Flow) : ∀ k, (firstL f k).length ≤ k
  | 0 => by simp [firstL]
  | k + 1 => by
    have := firstL_len f k
    simp only [firstL]
    split
    · simp; omega
    · omega

theorem comesTo_self {f : Flow} {m : Nat} (h : lotsB f m = true) (hm : m = f.lots.length) {k : Nat} (hk : k < m) : ∀ i, comesTo f k k i = false
  | 0 => rfl
  | i + 1 => by
    simp only [comesTo, comesTo_self h hm hk i, Bool.false_or]
    have := unk_later h hk (s := beforeI f k + i) (by omega)
    unfold unkI
    rw [← hm]
    simp
    omega

theorem hitTo_at {f : Flow} (h : lotsB f f.lots.length = true) {k : Nat} (hk : k < f.lots.length) : hitTo f k (k + 1) = hitTo f k k := by
  simp only [hitTo, comesTo_self h rfl hk, Bool.and_false, Bool.or_false]

def mostI : Int := 1152921504606846976

/-- n times the factorial of m; none if it is too great -/
def facTo (n : Int) : Nat → Option Int
  | 0 => some n
  | i + 1 => match facTo n i with
    | none => none
    | some v => if mostI / ((i : Int) + 1) < v then none else some (v * ((i : Int) + 1))

def prodTo (f : Flow) (l : List Int) : Nat → Option Int
  | 0 => some 1
  | k + 1 => match prodTo f l k with
    | none => none
    | some v => facTo v (lotAt f.lots (nth l k).toNat).ins.length

def prodR (f : Flow) (l : List Int) : Int := (prodTo f l l.length).getD 0

def prodB (f : Flow) (l : List Int) : Bool := (prodTo f l l.length).isSome

theorem facTo_bd {n : Int} (h1 : 1 ≤ n) (h2 : n ≤ mostI) : ∀ i v, facTo n i = some v → 1 ≤ v ∧ v ≤ mostI
  | 0, v, h => by simp [facTo] at h; omega
  | i + 1, v, h => by
    simp only [facTo] at h
    split at h
    · cases h
    · rename_i u hu
      have ih := facTo_bd h1 h2 i u hu
      split at h
      · cases h
      · rename_i hle
        injection h with h
        subst h
        have hp : (0 : Int) < (i : Int) + 1 := by omega
        have h3 : u ≤ mostI / ((i : Int) + 1) := by omega
        have h4 : u * ((i : Int) + 1) ≤ mostI := (Int.le_ediv_iff_mul_le hp).1 h3
        refine ⟨?_, h4⟩
        have := Int.mul_le_mul_of_nonneg_left (show (1 : Int) ≤ (i : Int) + 1 by omega) (show 0 ≤ u by omega)
        omega

theorem facTo_none {n : Int} {i m : Nat} (h : facTo n i = none) (hm : i ≤ m) : facTo n m = none := by
  induction hm with
  | refl => exact h
  | step _ ih => simp [facTo, ih]

theorem prodTo_bd {f : Flow} {l : List Int} : ∀ k v, prodTo f l k = some v → 1 ≤ v ∧ v ≤ mostI
  | 0, v, h => by simp [prodTo] at h; subst h; unfold mostI; omega
  | k + 1, v, h => by
    simp only [prodTo] at h
    split at h
    · cases h
    · rename_i u hu
      have ih := prodTo_bd k u hu
      exact facTo_bd ih.1 ih.2 _ v h

theorem prodTo_none {f : Flow} {l : List Int} {k m : Nat} (h : prodTo f l k = none) (hm : k ≤ m) : prodTo f l m = none := by
  induction hm with
  | refl => exact h
  | step _ ih => simp [prodTo, ih]

end Go.Proofs.Ythekefnocphcdaa

set_option linter.unusedVariables false

set_option linter.unusedSimpArgs false

namespace Go.Proofs.Ythekefnocphcdaa

open Go.RowKit

theorem perm_len {f : Flow} {k : Nat} (hv : lotsB f f.lots.length = true) (hk : k < f.lots.length) (hkn : (lotAt f.lots k).known = true) : (lotAt f.lots k).perm.length = (lotAt f.lots k).ins.length :=
  ((lotB_facts (lotsB_lot hv hk)).2.2 hkn).1

theorem perm_lt {f : Flow} {k i : Nat} (hv : lotsB f f.lots.length = true) (hk : k < f.lots.length) (hkn : (lotAt f.lots k).known = true) (hi : i < (lotAt f.lots k).ins.length) : 0 ≤ nth (lotAt f.lots k).perm i ∧ nth (lotAt f.lots k).perm i < (lotAt f.lots k).ins.length := by
  have h := (lotB_facts (lotsB_lot hv hk)).2.2 hkn
  exact h.2.2 _ (nth_mem (by omega))

theorem before_bd {f : Flow} (h : checkE f = 0) {k : Nat} (hk : k ≤ f.lots.length) : 0 ≤ beforeI f k ∧ beforeI f k ≤ 50000 := by
  have h1 := checkE_ok h
  have h2 := beforeI_mono (f := f) (Nat.zero_le k)
  have h3 := beforeI_mono (f := f) hk
  simp only [beforeI] at h2
  omega

end Go.Proofs.Ythekefnocphcdaa

set_option linter.unusedVariables false

set_option linter.unusedSimpArgs false

namespace Go.Proofs.Ythekefnocphcdaa

open Go.RowKit Go.MapKept

/-- block r goes over the map in block bm, which holds the pairs l; the pairs left are still to come -/
def MapIter (w : World) (bm r : Nat) (l left : AL) : Prop :=
  ∃ es c seen c0, w.heap[bm]? = some (.map es c) ∧ w.heap[r]? = some (.mapIter (some bm) c seen c0) ∧ Stamped es c ∧ c ≤ c0 ∧ es.toList.map (fun e => (e.key, e.val)) = l.map (fun p => (Value.int .i64 p.1, p.2)) ∧
    (leftOf es seen).toList.map (fun e => (e.key, e.val)) = left.map (fun p => (Value.int .i64 p.1, p.2))

theorem MapIter.kept {w w' : World} {bm r : Nat} {l left : AL} {row : Option Nat} (h : MapIter w bm r l left) (hg : w.grownBy w' row) (h1 : some bm ≠ row) (h2 : some r ≠ row) : MapIter w' bm r l left := by
  obtain ⟨es, c, seen, c0, a, b, rest⟩ := h
  exact ⟨es, c, seen, c0, (hg.block bm (Array.getElem?_eq_some_iff.1 a).1 h1).trans a, (hg.block r (Array.getElem?_eq_some_iff.1 b).1 h2).trans b, rest⟩

theorem MapIter.below {w w' : World} {bm r : Nat} {l left : AL} (h : MapIter w bm r l left) (hb : Below w.heap.size w w') : MapIter w' bm r l left :=
  h.kept (row := none) ⟨hb.os, hb.tape, hb.output, hb.size, fun k hk _ => hb.block k hk⟩ (by simp) (by simp)

theorem MapIter.alloc {w : World} {bm r : Nat} {l left : AL} (h : MapIter w bm r l left) (o : Obj) : MapIter (w.alloc o) bm r l left := h.below (box_below' w o)

theorem MapIter.map {w : World} {bm r : Nat} {l left : AL} (h : MapIter w bm r l left) : IntMap w bm l := by
  obtain ⟨es, c, seen, c0, a, b, d, e, f, g⟩ := h
  exact ⟨es, c, a, d, f⟩

theorem MapIter.lt {w : World} {bm r : Nat} {l left : AL} (h : MapIter w bm r l left) : bm < w.heap.size ∧ r < w.heap.size := by
  obtain ⟨es, c, seen, c0, a, b, _⟩ := h
  exact ⟨(Array.getElem?_eq_some_iff.1 a).1, (Array.getElem?_eq_some_iff.1 b).1⟩

theorem left_push (es : Array MapEntry) (seen : Array Nat) (b : Nat) : (leftOf es (seen.push b)).toList = (leftOf es seen).toList.filter (fun e => e.born != b) := by
  unfold leftOf
  simp only [Array.toList_filter, List.filter_filter]
  congr 1
  funext e
  rw [contains_push]
  rw [Bool.eq_iff_iff]
  simp only [Bool.not_eq_true', Bool.or_eq_false_iff, Bool.and_eq_true, bne_iff_ne, ne_eq, beq_eq_false_iff_ne, Bool.not_eq_eq_eq_not, Bool.not_true]
  constructor
  · rintro ⟨h1, h2⟩; exact ⟨h2, h1⟩
  · rintro ⟨h1, h2⟩; exact ⟨h2, h1⟩

theorem filter_out {l : List MapEntry} {e : MapEntry} (he : e ∈ l) (hn : (l.map (·.born)).Nodup) : ∃ A B, l = A ++ e :: B ∧ l.filter (fun x => x.born != e.born) = A ++ B := by
  obtain ⟨A, B, rfl⟩ := List.append_of_mem he
  refine ⟨A, B, rfl, ?_⟩
  rw [List.map_append, List.map_cons, List.nodup_append] at hn
  obtain ⟨h1, h2, h3⟩ := hn
  rw [List.nodup_cons] at h2
  rw [List.filter_append, List.filter_cons]
  simp only [bne_self_eq_false, Bool.false_eq_true, if_false]
  congr 1
  · rw [List.filter_eq_self]
    intro x hx
    simp only [bne_iff_ne, ne_eq]
    exact h3 _ (List.mem_map_of_mem hx) _ (by simp)
  · rw [List.filter_eq_self]
    intro x hx
    simp only [bne_iff_ne, ne_eq]
    intro e'
    exact h2.1 (e' ▸ List.mem_map_of_mem hx)

theorem map_split {α β : Type} {f : α → β} {γ : Type} {g : γ → β} : ∀ {A : List α} {e : α} {B : List α} {L : List γ}, (A ++ e :: B).map f = L.map g → ∃ A' p B', L = A' ++ p :: B' ∧ f e = g p ∧ (A ++ B).map f = (A' ++ B').map g
  | [], e, B, L, h => by
    cases L with
    | nil => simp at h
    | cons p L' =>
      simp only [List.nil_append, List.map_cons, List.cons.injEq] at h
      exact ⟨[], p, L', rfl, h.1, by simpa using h.2⟩
  | a :: A, e, B, L, h => by
    cases L with
    | nil => simp at h
    | cons p L' =>
      simp only [List.cons_append, List.map_cons, List.cons.injEq] at h
      obtain ⟨A', q, B', h1, h2, h3⟩ := map_split h.2
      refine ⟨p :: A', q, B', by rw [h1]; rfl, h2, ?_⟩
      simp only [List.cons_append, List.map_cons, h.1, h3]

section

variable {P : Program} {w : World} {ops : Array Oper} {rest : List Oper} {o : Oper} {a : Act} {Q : Exit → Act → World → Prop}

theorem grown_drew (w : World) (row : Option Nat) : w.grownBy w.drew row := ⟨rfl, rfl, rfl, Nat.le_refl _, fun _ _ _ => rfl⟩

theorem wpList_range_ints {T K E : TypeId} {bm : Nat} {l : AL} (hg : Region.wanted o (yielded ops a.tmps) = true) (m : Operand) (hop : o.op = Op.range T m) (hT : P.underlying T = some (.map K E)) (hm : a.eval m = .map (some bm)) (h : IntMap w bm l)
    (hk : ∀ w', MapIter w' bm w.heap.size l l → Below w.heap.size w w' → w'.heap.size = w.heap.size + 1 → wpList P ops Q rest (a.put o.dst (.pointer (some ⟨w.heap.size, 0, none⟩))) w') : wpList P ops Q (o :: rest) a w := by
  refine wpList_want hg fun K' hK' => ?_
  obtain ⟨es, c, hb, hs, he⟩ := h
  have hrun := run_range_map (P := P) w T K E bm es c hT hb
  unfold Oper.wp
  simp [execOp, hop, hm, hrun, Result.andThen]
  refine hK' _ _ (hk _ ?_ (box_below' _ _) (by simp))
  have hlt := (Array.getElem?_eq_some_iff.1 hb).1
  refine ⟨es, c, #[], c, (Below.heap_alloc w _ bm hlt).trans hb, heap_alloc_new w _, hs, Nat.le_refl _, he, ?_⟩
  have : leftOf es #[] = es := by unfold leftOf; simp
  rw [this, he]

theorem wpList_next_ints {bm r : Nat} {l left : AL} (hg : Region.wanted o (yielded ops a.tmps) = true) (it : Operand) (hop : o.op = Op.next it false) (hit : a.eval it = .pointer (some ⟨r, 0, none⟩)) (h : MapIter w bm r l left) (hne : r ≠ bm)
    (hDone : left = [] → wpList P ops Q rest (a.put o.dst (.tuple #[.bool false])) w)
    (hMore : ∀ (A : AL) (x : Int) (v : Value) (B : AL) (w' : World), left = A ++ (x, v) :: B → MapIter w' bm r l (A ++ B) → w.grownBy w' (some r) → w'.heap.size = w.heap.size →
      (Instr.entry (.pointer (some ⟨r, 0, none⟩))).run P w' = .ok (.tuple #[.int .i64 x, v]) w' → wpList P ops Q rest (a.put o.dst (.tuple #[.bool true, .int .i64 x, v])) w') : wpList P ops Q (o :: rest) a w := by
  refine wpList_want hg fun K' hK' => ?_
  obtain ⟨es, c, seen, c0, hb, hr, hs, hc, he, hl⟩ := h
  unfold Oper.wp
  rcases run_next_at (P := P) w o.type r bm c c0 seen es c hr hb hs.1 hc with ⟨h0, hrun⟩ | ⟨e, hm, w1, hw1, hrun⟩
  · simp [execOp, hop, hit, hrun, Result.andThen]
    refine hK' _ _ (hDone ?_)
    have : (leftOf es seen).toList = [] := List.eq_nil_of_length_eq_zero (by simpa using h0)
    rw [this] at hl
    simpa using hl.symm
  · have hml := mem_left hm
    have hnd : ((leftOf es seen).toList.map (·.born)).Nodup := by
      unfold leftOf
      rw [Array.toList_filter]
      exact List.Nodup.sublist (List.Sublist.map _ List.filter_sublist) hs.2.1
    obtain ⟨A, B, hAB, hfo⟩ := filter_out hm hnd
    rw [hAB] at hl
    obtain ⟨A', p, B', hL, hp, hAB'⟩ := map_split hl
    obtain ⟨x, v⟩ := p
    simp only [Prod.mk.injEq] at hp
    have hlr := (Array.getElem?_eq_some_iff.1 hr).1
    have hw1s : w1.heap = w.heap := by rcases hw1 with rfl | rfl <;> rfl
    have hg1 : w.grownBy w1 (some r) := by rcases hw1 with rfl | rfl; exact grown_refl _ _; exact grown_drew _ _
    have hg2 : w1.grownBy (Go.ChangeMaps.setBlock w1 r (.mapIter (some bm) c (seen.push e.born) c)) (some r) := by
      refine ⟨rfl, rfl, rfl, by simp [Go.ChangeMaps.setBlock], fun k hk hne => ?_⟩
      simp only [Go.ChangeMaps.setBlock]
      rw [Array.getElem?_setIfInBounds_ne]
      intro e; exact hne (by rw [e])
    have hgw := grown_trans hg1 hg2
    have hsz : (Go.ChangeMaps.setBlock w1 r (.mapIter (some bm) c (seen.push e.born) c)).heap.size = w.heap.size := by simp [Go.ChangeMaps.setBlock, hw1s]
    have hr' : (Go.ChangeMaps.setBlock w1 r (.mapIter (some bm) c (seen.push e.born) c)).heap[r]? = some (.mapIter (some bm) c (seen.push e.born) c) := by
      simp only [Go.ChangeMaps.setBlock, hw1s]
      rw [Array.getElem?_setIfInBounds_self_of_lt hlr]
    have hb' : (Go.ChangeMaps.setBlock w1 r (.mapIter (some bm) c (seen.push e.born) c)).heap[bm]? = some (.map es c) :=
      (hgw.block bm (Array.getElem?_eq_some_iff.1 hb).1 (by simpa using fun e => hne e.symm)).trans hb
    have hen := run_entry_at (P := P) _ r bm c seen es c e hr' hb' hml.1 hs.2.1
    rw [hp.1, hp.2] at hen
    simp [execOp, hop, hit, hrun, Result.andThen]
    rw [hp.1, hp.2]
    refine hK' _ _ (hMore A' x v B' _ hL ⟨es, c, seen.push e.born, c, hb', hr', hs, Nat.le_refl _, he, ?_⟩ hgw hsz hen)
    rw [left_push, hfo, hAB']

end

end Go.Proofs.Ythekefnocphcdaa

set_option linter.unusedVariables false

set_option linter.unusedSimpArgs false

namespace Go.Proofs.Ythekefnocphcdaa

theorem goneL_len (f : Flow) : ∀ k, f.senders + ((goneL f k).length : Int) = beforeI f k
  | 0 => by simp [goneL, beforeI]
  | k + 1 => by
    have := goneL_len f k
    simp only [goneL, beforeI, List.length_append]
    omega

theorem goneL_nodup {f : Flow} {m : Nat} (h : lotsB f m = true) : ∀ k, k ≤ m → (goneL f k).Nodup
  | 0, _ => by simp [goneL]
  | k + 1, hk => by
    simp only [goneL]
    rw [List.nodup_append]
    refine ⟨goneL_nodup h k (by omega), (lotB_facts (lotsB_lot h (show k < m by omega))).1, fun x hx y hy e => ?_⟩
    subst e
    have h1 := (ins_lt h (show k < m by omega) (hasB_iff.2 hy)).2.2
    rw [← hasB_goneL, hasB_iff.2 hx] at h1
    cases h1

theorem goneL_in {f : Flow} {m : Nat} (h : lotsB f m = true) : ∀ k, k ≤ m → ∀ x ∈ goneL f k, 0 ≤ x ∧ x < beforeI f k
  | 0, _, x, hx => by simp [goneL] at hx
  | k + 1, hk, x, hx => by
    simp only [goneL] at hx
    simp only [beforeI]
    rcases List.mem_append.1 hx with hx | hx
    · have := goneL_in h k (by omega) x hx; omega
    · have := ins_lt h (show k < m by omega) (hasB_iff.2 hx); omega

def upL : Nat → List Int
  | 0 => []
  | n + 1 => upL n ++ [(n : Int)]

theorem upL_len : ∀ n, (upL n).length = n
  | 0 => rfl
  | n + 1 => by simp [upL, upL_len n]

theorem upL_mem (x : Int) : ∀ n, x ∈ upL n ↔ 0 ≤ x ∧ x < n
  | 0 => by simp [upL]
  | n + 1 => by simp only [upL, List.mem_append, upL_mem x n, List.mem_singleton]; omega

theorem upL_nodup : ∀ n, (upL n).Nodup
  | 0 => by simp [upL]
  | n + 1 => by
    simp only [upL]
    rw [List.nodup_append]
    refine ⟨upL_nodup n, by simp, fun x hx y hy e => ?_⟩
    have := (upL_mem x n).1 hx
    simp at hy
    omega

theorem ends_count {f : Flow} (h : checkE f = 0) : ((endsL f).length : Int) = f.senders := by
  have hc := checkE_ok h
  have hg := goneL_len f f.lots.length
  have h0 := beforeI_mono (f := f) (Nat.zero_le f.lots.length)
  simp only [beforeI] at h0
  have hn : (endsL f ++ goneL f f.lots.length).Nodup := by
    rw [List.nodup_append]
    refine ⟨endsTo_nodup f _, goneL_nodup hc.2.2.2.2 _ (Nat.le_refl _), fun x hx y hy e => ?_⟩
    subst e
    have h1 := ((endsTo_mem f x _).1 hx).2.2
    rw [← hasB_goneL, hasB_iff.2 hy] at h1
    cases h1
  have h1 := inj_len (fun y => y) _ (upL (beforeI f f.lots.length).toNat) hn (fun _ _ _ _ h => h) (fun x hx => by
    rw [upL_mem]
    rcases List.mem_append.1 hx with hx | hx
    · have := (endsTo_mem f x _).1 hx; omega
    · have := goneL_in hc.2.2.2.2 _ (Nat.le_refl _) x hx; omega)
  have h2 := inj_len (fun y => y) (upL (beforeI f f.lots.length).toNat) (endsL f ++ goneL f f.lots.length) (upL_nodup _) (fun _ _ _ _ h => h) (fun x hx => by
    have hx := (upL_mem x _).1 hx
    rw [List.mem_append]
    cases hgo : goneB f x f.lots.length
    · left
      unfold endsL
      rw [endsTo_mem]
      exact ⟨hx.1, hx.2, hgo⟩
    · right
      rw [← hasB_goneL] at hgo
      exact hasB_iff.1 hgo)
  rw [upL_len, List.length_append] at h1 h2
  omega

def waysS : List (List Int) → List Int → Int
  | [], _ => 1
  | row :: rest, used => (row.map fun x => if hasB used x then 0 else waysS rest (used ++ [x])).sum

theorem sum_bd {g : Int → Int} {c : Int} : ∀ {l : List Int}, (∀ x ∈ l, 0 ≤ g x ∧ g x ≤ c) → 0 ≤ (l.map g).sum ∧ (l.map g).sum ≤ l.length * c
  | [], _ => by simp
  | x :: r, h => by
    have ih := sum_bd (l := r) (fun y hy => h y (by simp [hy]))
    have hx := h x (by simp)
    simp only [List.map_cons, List.sum_cons, List.length_cons]
    have : ((r.length + 1 : Nat) : Int) * c = r.length * c + c := by rw [Int.natCast_add, Int.add_mul]; simp
    omega

theorem pow6_pos (n : Nat) : (1 : Int) ≤ 6 ^ n := by
  induction n with
  | zero => simp
  | succ n ih => rw [Int.pow_succ]; omega

def waysM (ends : List Int) : List (List Int) → Nat → Int
  | [], _ => 1
  | row :: rest, T => (row.map fun x => if T.testBit (ends.idxOf x) then 0 else waysM ends rest (T ||| 2 ^ ends.idxOf x)).sum

theorem map_sum_congr {g h : Int → Int} : ∀ {l : List Int}, (∀ x ∈ l, g x = h x) → (l.map g).sum = (l.map h).sum
  | [], _ => rfl
  | x :: r, hh => by
    simp only [List.map_cons, List.sum_cons]
    rw [hh x (by simp), map_sum_congr (l := r) (fun y hy => hh y (by simp [hy]))]

theorem waysM_eq {ends : List Int} (hn : ends.Nodup) : ∀ (rows : List (List Int)) (T : Nat) (used : List Int), (∀ r ∈ rows, ∀ x ∈ r, x ∈ ends) → (∀ x ∈ ends, T.testBit (ends.idxOf x) = hasB used x) → waysM ends rows T = waysS rows used
  | [], _, _, _, _ => rfl
  | row :: rest, T, used, hr, hT => by
    simp only [waysM, waysS]
    refine map_sum_congr fun x hx => ?_
    have hxe := hr row (by simp) x hx
    simp only [hT x hxe]
    split
    · rfl
    · refine waysM_eq hn rest _ _ (fun r hr' => hr r (by simp [hr'])) (fun y hy => ?_)
      rw [Nat.testBit_or, hT y hy, Nat.testBit_two_pow, hasB_snoc]
      congr 1
      rw [Bool.eq_iff_iff]
      simp only [decide_eq_true_eq, beq_iff_eq]
      constructor
      · intro e
        have h1 := nth_idx hxe
        have h2 := nth_idx hy
        rw [← h1.2, ← h2.2, e]
      · intro e; rw [e]

abbrev WL := List (Int × Int)

def sumBy (g : Int → Int) (L : WL) : Int := (L.map fun p => p.2 * g p.1).sum

def wlook : WL → Int → Int
  | [], _ => 0
  | (k, v) :: r, x => if k = x then v else wlook r x

def wset : WL → Int → Int → WL
  | [], x, v => [(x, v)]
  | (k, u) :: r, x, v => if k = x then (k, v) :: r else (k, u) :: wset r x v

theorem sumBy_wset (g : Int → Int) (x d : Int) : ∀ L : WL, sumBy g (wset L x (wlook L x + d)) = sumBy g L + d * g x
  | [] => by simp [wset, wlook, sumBy]
  | (k, u) :: r => by
    by_cases h : k = x
    · subst h
      simp only [wset, wlook, if_true, sumBy, List.map_cons, List.sum_cons]
      rw [Int.add_mul]; omega
    · have ih := sumBy_wset g x d r
      simp only [wset, wlook, if_neg h, sumBy, List.map_cons, List.sum_cons] at *
      rw [ih]; omega

theorem sumBy_mid (g : Int → Int) (A B : WL) (p : Int × Int) : sumBy g (A ++ p :: B) = sumBy g (A ++ B) + p.2 * g p.1 := by
  simp [sumBy]; omega

/-- all keys are numbers below c, all values are not negative -/
def WOk (c : Nat) (L : WL) : Prop := ∀ p ∈ L, 0 ≤ p.1 ∧ p.1 < (2 : Int) ^ c ∧ 0 ≤ p.2

theorem wlook_ge {c : Nat} {L : WL} (h : WOk c L) (x : Int) : 0 ≤ wlook L x := by
  induction L with
  | nil => simp [wlook]
  | cons p r ih =>
    obtain ⟨k, v⟩ := p
    simp only [wlook]
    split
    · exact (h (k, v) (by simp)).2.2
    · exact ih (fun q hq => h q (by simp [hq]))

theorem WOk.wset {c : Nat} {L : WL} (h : WOk c L) {x v : Int} (h0 : 0 ≤ x) (h1 : x < (2 : Int) ^ c) (hv : 0 ≤ v) : WOk c (wset L x v) := by
  induction L with
  | nil => intro p hp; simp [Go.Proofs.Ythekefnocphcdaa.wset] at hp; subst hp; exact ⟨h0, h1, hv⟩
  | cons q r ih =>
    obtain ⟨k, u⟩ := q
    have hq := h (k, u) (by simp)
    have hr : WOk c r := fun p hp => h p (by simp [hp])
    intro p hp
    simp only [Go.Proofs.Ythekefnocphcdaa.wset] at hp
    split at hp
    · rcases List.mem_cons.1 hp with rfl | hp
      · exact ⟨hq.1, hq.2.1, hv⟩
      · exact hr p hp
    · rcases List.mem_cons.1 hp with rfl | hp
      · exact hq
      · exact ih hr p hp

theorem wlook_le_sum {c : Nat} {L : WL} (h : WOk c L) (x : Int) : wlook L x ≤ sumBy (fun _ => 1) L ∧ 0 ≤ sumBy (fun _ => 1) L := by
  induction L with
  | nil => simp [wlook, sumBy]
  | cons p r ih =>
    obtain ⟨k, v⟩ := p
    have hp := (h (k, v) (by simp)).2.2
    have ih := ih (fun q hq => h q (by simp [hq]))
    have e : sumBy (fun _ => 1) ((k, v) :: r) = v + sumBy (fun _ => 1) r := by simp [sumBy]
    rw [e]
    simp only [wlook]
    simp only at hp
    split
    · omega
    · omega

/-- what one pair gives to the next sets, over the first i ends of a row -/
def giveTo (ends row : List Int) (g : Int → Int) (T v : Int) (i : Nat) : Int :=
  ((row.take i).map fun x => if T.toNat.testBit (ends.idxOf x) then 0 else v * g ((T.toNat ||| 2 ^ ends.idxOf x : Nat) : Int)).sum

theorem giveTo_succ {ends row : List Int} {g : Int → Int} {T v : Int} {i : Nat} (h : i < row.length) :
    giveTo ends row g T v (i + 1) = giveTo ends row g T v i + if T.toNat.testBit (ends.idxOf (nth row i)) then 0 else v * g ((T.toNat ||| 2 ^ ends.idxOf (nth row i) : Nat) : Int) := by
  unfold giveTo
  rw [List.take_succ_eq_append_getElem h, List.map_append, List.sum_append, nth_eq_getElem h]
  simp

theorem giveTo_ways {ends : List Int} {row : List Int} {rest : List (List Int)} {T v : Int} : giveTo ends row (fun U => waysM ends rest U.toNat) T v row.length = v * waysM ends (row :: rest) T.toNat := by
  unfold giveTo
  rw [List.take_of_length_le (Nat.le_refl _)]
  simp only [waysM]
  have : ∀ l : List Int, (l.map fun x => if T.toNat.testBit (ends.idxOf x) then 0 else v * waysM ends rest (((T.toNat ||| 2 ^ ends.idxOf x : Nat) : Int).toNat)).sum = v * (l.map fun x => if T.toNat.testBit (ends.idxOf x) then 0 else waysM ends rest (T.toNat ||| 2 ^ ends.idxOf x)).sum := by
    intro l
    induction l with
    | nil => simp
    | cons x r ih =>
      simp only [List.map_cons, List.sum_cons, ih, Int.mul_add, Int.toNat_natCast]
      congr 1
      split
      · simp
      · rfl
  exact this row

theorem giveTo_one {ends row : List Int} {T v : Int} (hv : 0 ≤ v) (i : Nat) (hi : i ≤ 6) : 0 ≤ giveTo ends row (fun _ => 1) T v i ∧ giveTo ends row (fun _ => 1) T v i ≤ 6 * v := by
  unfold giveTo
  have := sum_bd (g := fun x => if T.toNat.testBit (ends.idxOf x) then 0 else v * 1) (c := v) (l := row.take i) (fun x _ => by split <;> omega)
  refine ⟨this.1, Int.le_trans this.2 ?_⟩
  have hl : (row.take i).length ≤ 6 := by simp; omega
  exact Int.mul_le_mul_of_nonneg_right (by omega) hv

def rowsOf (f : Flow) : List (List Int) := matTo f f.senders.toNat

def upperE (f : Flow) : Int := if checkE f ≠ 0 then checkE f else if 12 < f.senders then 2 else 0

def upperR (f : Flow) : Int := if upperE f = 0 then waysS (rowsOf f) [] else 0

end Go.Proofs.Ythekefnocphcdaa

set_option linter.unusedVariables false

set_option linter.unusedSimpArgs false

namespace Go.Proofs.Ythekefnocphcdaa

open Go.RowKit

theorem facTo_step {n v : Int} {i : Nat} (h : facTo n i = some v) : facTo n (i + 1) = if mostI / ((i : Int) + 1) < v then none else some (v * ((i : Int) + 1)) := by
  simp only [facTo, h]

theorem mul_bd {v : Int} {i : Nat} (h1 : 1 ≤ v) (h : ¬ mostI / ((i : Int) + 1) < v) : 0 ≤ v * ((i : Int) + 1) ∧ v * ((i : Int) + 1) ≤ 1152921504606846976 := by
  have h4 : v * ((i : Int) + 1) ≤ mostI := (Int.le_ediv_iff_mul_le (by omega)).1 (by omega)
  exact ⟨Int.mul_nonneg (by omega) (by omega), h4⟩

/-- Few of layer 28 -/
def few28 (f : Flow) : Bool := few25 f && (decide (f.senders ≤ 6) || decide (12 < f.senders))

theorem few28_any (B : Nat) (w : World) (vs vl : Value) (f : Flow) (hf : IsFlow B w vs vl f) (hB : B ≤ w.heap.size) :
    Calls Try.prog 37 #[.agg #[vs, vl]] w fun e w' => e = .returned (.bool (few28 f)) ∧ Below w.heap.size w w' := by
  have HF := Lib.hid hf
  obtain ⟨rfl, ⟨hs1, hs2⟩, hl⟩ := hf
  obtain ⟨b, off, cap, ⟨a, rfl, hcap, hmax, ha⟩, hlen, hc⟩ := hl
  clear hc ha
  have HC := Lib.hid (fun o => few25_any B (w.alloc o) _ _ f (HF.out.below (box_below hB o) (Nat.le_refl _)) (by simp; omega))
  cases h1 : few25 f
  · have HT : Hid (few28 f = false) := Lib.hid (by unfold few28; rw [h1]; rfl)
    have H1 := Lib.hid h1
    clear h1
    go_enter Try.func37, Try.ntmps37
    go_wp2_with (go_at_call 42; refine (HC.out _).mono ?_; rintro e w5 ⟨rfl, hb5⟩; rw [H1.out]; have HB5 := Lib.hid hb5; clear hb5)
    go_ret
    exact ⟨by rw [HT.out]; rfl, (box_below (Nat.le_refl _) _).trans (HB5.out.mono (by simp))⟩
  · have H1 := Lib.hid h1
    have HT : Hid (few28 f = (decide (f.senders ≤ 6) || decide (12 < f.senders))) := Lib.hid (by unfold few28; rw [h1]; rfl)
    clear h1
    by_cases h2 : f.senders ≤ 6
    · have h2' : decide (f.senders ≤ 6) = true := decide_eq_true h2
      have HU : Hid (few28 f = true) := Lib.hid (by rw [HT.out, h2']; rfl)
      go_enter Try.func37, Try.ntmps37
      go_wp2_with (go_at_call 42; refine (HC.out _).mono ?_; rintro e w5 ⟨rfl, hb5⟩; rw [H1.out]; have HB5 := Lib.hid hb5; have HX := Lib.hid ((Box.new w _ _).ext hb5); obtain ⟨z5, r5⟩ := HX.out; clear hb5)
      go_ret
      exact ⟨by rw [HU.out]; rfl, (box_below (Nat.le_refl _) _).trans (HB5.out.mono (by simp))⟩
    · have h2' : decide (f.senders ≤ 6) = false := decide_eq_false h2
      have HU : Hid (few28 f = decide (12 < f.senders)) := Lib.hid (by rw [HT.out, h2']; rfl)
      go_enter Try.func37, Try.ntmps37
      go_wp2_with (go_at_call 42; refine (HC.out _).mono ?_; rintro e w5 ⟨rfl, hb5⟩; rw [H1.out]; have HB5 := Lib.hid hb5; have HX := Lib.hid ((Box.new w _ _).ext hb5); obtain ⟨z5, r5⟩ := HX.out; clear hb5)
      go_ret
      exact ⟨by rw [HU.out]; rfl, (box_below (Nat.le_refl _) _).trans (HB5.out.mono (by simp))⟩

end Go.Proofs.Ythekefnocphcdaa

set_option linter.unusedVariables false

set_option linter.unusedSimpArgs false

namespace Go.Proofs.Ythekefnocphcdaa

open Go.RowKit

theorem pow6_le {n m : Nat} (h : n ≤ m) : (6 : Int) ^ n ≤ 6 ^ m := by
  induction h with
  | refl => exact Int.le_refl _
  | @step m _ ih =>
    have := pow6_pos m
    rw [Int.pow_succ]
    omega

theorem drop_row {rows : List (List Int)} {s : Nat} (h : s < rows.length) : rows.drop s = rowAt rows s :: rows.drop (s + 1) := by
  rw [List.drop_eq_getElem_cons h]
  congr 1
  unfold rowAt
  rw [List.getD_eq_getElem?_getD, List.getElem?_eq_getElem h]
  rfl

theorem rowAt_in {rows : List (List Int)} {s : Nat} (h : s < rows.length) : rowAt rows s ∈ rows := by
  unfold rowAt
  rw [List.getD_eq_getElem?_getD, List.getElem?_eq_getElem h]
  exact List.getElem_mem h

theorem OwnInts.rows' {B : Nat} {w : World} {v : Value} {xs : List Int} (h : OwnInts B w v xs) : ∀ k, v.ownBlock = some k → B ≤ k := fun k hk => (h.1.lt k hk).1

end Go.Proofs.Ythekefnocphcdaa

set_option linter.unusedVariables false

set_option linter.unusedSimpArgs false

namespace Go.Proofs.Ythekefnocphcdaa

open Go.RowKit

theorem reachL_le {f : Flow} (h : checkE f = 0) (s : Int) : ((reachL f s).length : Int) ≤ f.senders := by
  have := ends_count h
  rw [reachL_eq]
  have := List.length_filter_le (hasB (spotsTo f s f.lots.length) ·) (endsL f)
  omega

theorem matTo_mem {f : Flow} : ∀ {k : Nat} {r : List Int}, r ∈ matTo f k → ∃ s : Int, r = reachL f s
  | 0, r, h => by simp [matTo] at h
  | k + 1, r, h => by
    simp only [matTo] at h
    rcases List.mem_append.1 h with h | h
    · exact matTo_mem h
    · simp at h; exact ⟨k, h⟩

theorem rowsOf_len (f : Flow) : (rowsOf f).length = f.senders.toNat := matTo_len f _

theorem rowsOf_le {f : Flow} (h : checkE f = 0) (h6 : f.senders ≤ 6) : ∀ r ∈ rowsOf f, r.length ≤ 6 := by
  intro r hr
  obtain ⟨s, rfl⟩ := matTo_mem hr
  have := reachL_le h s
  omega

theorem rowsOf_in {f : Flow} : ∀ r ∈ rowsOf f, ∀ x ∈ r, x ∈ endsL f := by
  intro r hr x hx
  obtain ⟨s, rfl⟩ := matTo_mem hr
  rw [reachL_eq] at hx
  exact (List.mem_filter.1 hx).1

theorem matR_ok {f : Flow} (h : checkE f = 0) : matR f = rowsOf f := by unfold matR rowsOf; rw [if_pos h]

def lowerOk (f : Flow) : Bool := prodB f (lastL f f.lots.length) && prodB f (firstL f f.lots.length)

def lowerE (f : Flow) : Int := if checkE f ≠ 0 then checkE f else if lowerOk f then 0 else 2

def lowerR (f : Flow) : Int := if lowerE f = 0 then (if prodR f (firstL f f.lots.length) ≤ prodR f (lastL f f.lots.length) then prodR f (lastL f f.lots.length) else prodR f (firstL f f.lots.length)) else 0

def lowerL (f : Flow) : List Int := if lowerE f = 0 then (if prodR f (firstL f f.lots.length) ≤ prodR f (lastL f f.lots.length) then lastL f f.lots.length else firstL f f.lots.length) else []

end Go.Proofs.Ythekefnocphcdaa

set_option linter.unusedVariables false

set_option linter.unusedSimpArgs false

namespace Go.Proofs.Ythekefnocphcdaa

open Go.RowKit

/-- what an iterator value promises: its n elements are handed to yield in order; D: the blocks that it leans on; M: those of them that it writes itself -/
def IterM (P : Program) (M : Nat → Prop) (gf : FuncId) (lb : Array Value) (n : Nat) (enc : Nat → World → Array Value → Prop) (D : Nat → Prop) (w : World) : Prop :=
  ∀ (l : Nat) (ob : Nat → Prop) (W : World) (J Jx : Nat → Nat → World → Prop),
    Turned (fun k => ¬ D k) w W → (∀ k, ob k → k < W.heap.size ∧ ¬ D k) →
    (∀ s i A B, W.heap.size ≤ s → J s i A → Turned (fun k => M k ∨ (W.heap.size ≤ k ∧ k < s)) A B → J s i B) →
    (∀ s i A B, W.heap.size ≤ s → Jx s i A → Turned (fun k => M k ∨ (W.heap.size ≤ k ∧ k < s)) A B → Jx s i B) →
    (∀ s s' i A, s ≤ s' → s' ≤ A.heap.size → J s i A → J s' i A) →
    (∀ s W1, W.heap.size ≤ s → s ≤ W1.heap.size → Below W.heap.size W W1 → J s 0 W1) →
    (∀ s i W1 args, W.heap.size ≤ s → s ≤ W1.heap.size → i < n → J s i W1 → enc i W1 args → YieldAt Fence.wide 9 P l args W1 fun e W' =>
      (e = .returned (.bool true) ∧ J s (i + 1) W' ∧ Turned (fun k => ob k ∨ s ≤ k) W1 W') ∨ (e = .returned (.bool false) ∧ Jx s i W' ∧ Turned (fun k => ob k ∨ s ≤ k) W1 W')) →
    CallsIn Fence.wide 10 P gf (#[.func (.yield l) #[] #[]] ++ lb) W fun e W' => (∃ v, e = .returned v) ∧ ∃ s, W.heap.size ≤ s ∧ s ≤ W'.heap.size ∧ (J s n W' ∨ ∃ i, i < n ∧ Jx s i W')

/-- the rule for a loop over a function -/
theorem range_lawM {P : Program} {g : Operand} {ps : Array Tmp} {assign body : Code} {Q : Exit → Act → World → Prop} {a : Act} {w : World}
    {gf : FuncId} {lb : Array Value} (hg : a.eval g = .func (.func gf) #[] lb) (eg : Enters P gf) {n : Nat} {enc : Nat → World → Array Value → Prop} {D : Nat → Prop} {w0 : World} {M : Nat → Prop} (hseq : IterM P M gf lb n enc D w0) (hMD : ∀ k, M k → D k)
    (hw0 : Turned (fun k => ¬ D k) w0 w) (hD : ∀ k, D k → k < w0.heap.size) (ob : Nat → Prop) (hob : ∀ k, ob k → k < w.heap.size ∧ ¬ D k)
    (hps : ∀ i W args, enc i W args → args.size = ps.size) (henc : ∀ i A B args, enc i A args → Turned (fun k => w.heap.size ≤ k ∧ k < w.heap.size + 2) A B → enc i B args)
    (I : Nat → Nat → World → Prop) (Ix : Code → Nat → Nat → World → Prop)
    (hI : ∀ s i A B, w.heap.size ≤ s → I s i A → Turned (fun k => M k ∨ (w.heap.size ≤ k ∧ k < s)) A B → I s i B)
    (hIx : ∀ c s i A B, w.heap.size ≤ s → Ix c s i A → Turned (fun k => M k ∨ (w.heap.size ≤ k ∧ k < s)) A B → Ix c s i B)
    (hup : ∀ s s' i A, s ≤ s' → s' ≤ A.heap.size → I s i A → I s' i A)
    (h0 : ∀ s W1, w.heap.size ≤ s → s ≤ W1.heap.size → Below w.heap.size w W1 → I s 0 W1)
    (hround : ∀ (l s i : Nat) (W : World) (args : Array Value), w.heap.size + 2 ≤ s → s ≤ W.heap.size → i < n → I s i W → enc i W args →
      assign.wpIn (Fence.wide.inRound l) 9 P (Exit.then (fun a₁ W₁ => Below W.heap.size W W₁ ∧ ∀ W₂, Turned (fun k => w.heap.size ≤ k ∧ k < w.heap.size + 2) W₁ W₂ → body.wpIn (Fence.wide.inRound l) 9 P (rndPost ob I Ix s i W₂) a₁ W₂) (fun _ _ _ => False)) { tmps := (ps.zip args).foldl (fun t (p, v) => t.setIfInBounds p v) a.tmps, defers := [] } W)
    (hdone : ∀ (d s : Nat) (W : World), w.heap.size ≤ d → d < s → s ≤ W.heap.size → I s n W → W.heap[d]? = some (.deferred (some [])) → Q .normal { a with defers := { target := .collected d, args := #[] } :: a.defers } W)
    (hstop : ∀ (d s i : Nat) (c : Code) (W : World), w.heap.size ≤ d → d < s → s ≤ W.heap.size → i < n → Ix c s i W → W.heap[d]? = some (.deferred (some [])) → c.wpIn Fence.wide 11 P Q { a with defers := { target := .collected d, args := #[] } :: a.defers } W) :
    (Code.rangeFunc g ps assign body).wpIn Fence.wide 11 P Q a w := by
  refine wpIn_rangeFunc ?_
  intro fn hfn
  obtain ⟨rec, hrec⟩ : ∃ rec : LoopState → Option Code → Loop, rec = fun st pe => { state := st, pending := pe, fn, tmps := a.tmps, params := ps, assign, body, defers := w.heap.size } := ⟨_, rfl⟩
  obtain ⟨W1, hW1⟩ : ∃ W1, (w.alloc (.deferred (some []))).alloc (.loop (rec .ready none)) = W1 := ⟨_, rfl⟩
  have hL1 : W1.heap[w.heap.size + 1]? = some (.loop (rec .ready none)) := by
    rw [← hW1]; have := World.alloc_heap_new (w.alloc (.deferred (some []))) (.loop (rec .ready none)); rwa [World.size_alloc] at this
  have hK1 : W1.heap[w.heap.size]? = some (.deferred (some [])) := by
    rw [← hW1]; exact (Below.heap_alloc _ _ _ (by simp)).trans (World.alloc_heap_new w _)
  have hb1 : Below w.heap.size w W1 := by
    rw [← hW1]; exact ((Below.refl _ w).alloc (Nat.le_refl _) _).alloc (by simp) _
  have hs1 : W1.heap.size = w.heap.size + 2 := by rw [← hW1]; simp
  refine ⟨w.heap.size + 1, [{ target := .collected w.heap.size, args := #[] }], W1, { target := .fn (.func gf) lb, args := #[.func (.yield (w.heap.size + 1)) #[] #[]] }, W1, gf,
    #[.func (.yield (w.heap.size + 1)) #[] #[]] ++ lb, W1, ?_, ?_, ?_, ?_, fun _ => by omega, ?_⟩
  · rw [← hW1, hrec]; exact run_enterLoop_outer _ _ _ _ _
  · simp only [resolve, hg]
    simp [go_sem]
  · intro f' _; trivial
  · simp [invoke, go_sem]; exact eg _ _
  · -- the loop's two blocks beside what the caller's invariant says
    have nM : ∀ {k : Nat}, w.heap.size ≤ k → ¬ M k := fun hk hx => by have := hD _ (hMD _ hx); have := hw0.size; omega
    have stay : ∀ {s : Nat} {A B : World}, W1.heap.size ≤ s → Turned (fun k => M k ∨ (W1.heap.size ≤ k ∧ k < s)) A B → ∀ {k : Nat} {o : Obj}, w.heap.size ≤ k ∧ k < w.heap.size + 2 → A.heap[k]? = some o → B.heap[k]? = some o := by
      intro s A B hs ht k o hk ho
      exact (ht.block k (Array.getElem?_eq_some_iff.1 ho).1 (by rintro (h | h); exact nM hk.1 h; omega)).trans ho
    refine (hseq (w.heap.size + 1) (fun k => ob k ∨ k = w.heap.size ∨ k = w.heap.size + 1) W1
      (fun s i W => s ≤ W.heap.size ∧ I s i W ∧ W.heap[w.heap.size + 1]? = some (.loop (rec .ready none)) ∧ W.heap[w.heap.size]? = some (.deferred (some [])))
      (fun s i W => s ≤ W.heap.size ∧ ∃ c, Ix c s i W ∧ W.heap[w.heap.size + 1]? = some (.loop (rec .done (some c))) ∧ W.heap[w.heap.size]? = some (.deferred (some [])))
      (hw0.trans (Turned.of_below hb1))
      (fun k hk => by
        rcases hk with hk | rfl | rfl
        · exact ⟨by have := (hob k hk).1; omega, (hob k hk).2⟩
        · exact ⟨by omega, fun hd => by have := hD _ hd; have := hw0.size; omega⟩
        · exact ⟨by omega, fun hd => by have := hD _ hd; have := hw0.size; omega⟩)
      (fun s i A B hs hj ht => ⟨Nat.le_trans hj.1 ht.size, hI s i A B (by omega) hj.2.1 (ht.mono fun k _ hk => by rcases hk with h | h; exact Or.inl h; exact Or.inr ⟨by omega, h.2⟩), stay hs ht (by omega) hj.2.2.1, stay hs ht (by omega) hj.2.2.2⟩)
      (fun s i A B hs hj ht => by
        obtain ⟨h, c, hc, hl, hk⟩ := hj
        exact ⟨Nat.le_trans h ht.size, c, hIx c s i A B (by omega) hc (ht.mono fun k _ hk => by rcases hk with h | h; exact Or.inl h; exact Or.inr ⟨by omega, h.2⟩), stay hs ht (by omega) hl, stay hs ht (by omega) hk⟩)
      (fun s s' i A h1 h2 hj => ⟨h2, hup s s' i A h1 h2 hj.2.1, hj.2.2⟩)
      (fun s W2 hs hs2 hb2 => ⟨hs2, h0 s W2 (by omega) hs2 (hb1.trans (hb2.mono hb1.size)), (hb2.block _ (by omega)).trans hL1, (hb2.block _ (by omega)).trans hK1⟩)
      ?_).mono ?_
    · -- one round
      rintro s i W args hs hsW hi ⟨_, hiI, hl, hk⟩ hen
      have hlt : w.heap.size + 1 < W.heap.size := (Array.getElem?_eq_some_iff.1 hl).1
      have hy := run_yield (P := P) (args := args) hl (by rw [hrec]; exact hps i W args hen)
      rw [hrec] at hy
      have hrd := hround (w.heap.size + 1) s i W args (by omega) hsW hi hiI hen
      refine ⟨fn, _, assign, body, hy, roundIn_of_wpIn hfn (wpIn_mono hrd ?_)⟩
      rintro e a2 W2 hq
      cases e with
      | normal =>
        obtain ⟨hb2, hbody⟩ := hq
        have hl2 := (hb2.block _ hlt).trans hl
        have hk2 := (hb2.block _ (by omega)).trans hk
        have hlt2 : w.heap.size + 1 < W2.heap.size := (Array.getElem?_eq_some_iff.1 hl2).1
        have hbz : Turned (fun k => w.heap.size ≤ k ∧ k < w.heap.size + 2) W2 (W2.putObj (w.heap.size + 1) (.loop { rec .ready none with state := .busy })) := Turned.putObj _ _ _ ⟨by omega, by omega⟩
        have hl3 : (W2.putObj (w.heap.size + 1) (.loop { rec .ready none with state := .busy })).heap[w.heap.size + 1]? = some (.loop { rec .ready none with state := .busy }) := World.putObj_heap_same hlt2
        have hk3 : (W2.putObj (w.heap.size + 1) (.loop { rec .ready none with state := .busy })).heap[w.heap.size]? = some (.deferred (some [])) := (World.putObj_heap_other (by omega)).trans hk2
        refine ⟨_, run_beginRound hl2 (by rw [hrec]), wpIn_mono (hbody _ hbz) ?_⟩
        have fin : ∀ (jump : Option Code) (W3 : World), Turned (fun k => ob k ∨ s ≤ k) (W2.putObj (w.heap.size + 1) (.loop { rec .ready none with state := .busy })) W3 →
            (Instr.endRound (w.heap.size + 1) jump).run P W3 = .ok (.bool jump.isNone) (W3.putObj (w.heap.size + 1) (.loop (rec (if jump.isNone then .ready else .done) jump))) ∧
            (W3.putObj (w.heap.size + 1) (.loop (rec (if jump.isNone then .ready else .done) jump))).heap[w.heap.size + 1]? = some (.loop (rec (if jump.isNone then .ready else .done) jump)) ∧
            (W3.putObj (w.heap.size + 1) (.loop (rec (if jump.isNone then .ready else .done) jump))).heap[w.heap.size]? = some (.deferred (some [])) ∧
            Turned (fun k => (ob k ∨ k = w.heap.size ∨ k = w.heap.size + 1) ∨ s ≤ k) W (W3.putObj (w.heap.size + 1) (.loop (rec (if jump.isNone then .ready else .done) jump))) ∧
            Turned (fun k => w.heap.size ≤ k ∧ k < s) W3 (W3.putObj (w.heap.size + 1) (.loop (rec (if jump.isNone then .ready else .done) jump))) ∧ s ≤ W3.heap.size := fun jump W3 ht => by
          have nob : ∀ {k : Nat}, w.heap.size ≤ k → ¬ ob k := fun hk hx => by have := (hob _ hx).1; omega
          have q1 := (ht.block _ (by simpa using hlt2) (by rintro (h | h); exact nob (by omega) h; omega)).trans hl3
          have q2 := (ht.block _ (by simp; omega) (by rintro (h | h); exact nob (by omega) h; omega)).trans hk3
          have := run_endRound (P := P) jump q1
          have hz3 := ht.size
          simp at hz3
          have hz2 := hb2.size
          rw [hrec] at this ⊢
          refine ⟨this, World.putObj_heap_same (Array.getElem?_eq_some_iff.1 q1).1, (World.putObj_heap_other (by omega)).trans q2, ?_, Turned.putObj _ _ _ ⟨by omega, by omega⟩, by omega⟩
          have t1 : Turned (fun k => (ob k ∨ k = w.heap.size ∨ k = w.heap.size + 1) ∨ s ≤ k) W W2 := Turned.of_below hb2
          have t2 : Turned (fun k => (ob k ∨ k = w.heap.size ∨ k = w.heap.size + 1) ∨ s ≤ k) W2 (W2.putObj (w.heap.size + 1) (.loop { rec .ready none with state := .busy })) := hbz.mono fun k _ hk => by omega
          have t3 : Turned (fun k => (ob k ∨ k = w.heap.size ∨ k = w.heap.size + 1) ∨ s ≤ k) (W2.putObj (w.heap.size + 1) (.loop { rec .ready none with state := .busy })) W3 := ht.mono fun k _ hk => by
            rcases hk with hk | hk
            · exact Or.inl (Or.inl hk)
            · exact Or.inr hk
          rw [hrec] at t2 t3
          exact t1.trans (t2.trans (t3.trans (Turned.putObj _ _ _ (by omega))))
        rintro e a3 W3 hp
        cases e with
        | normal =>
          obtain ⟨ht3, hi3⟩ := hp
          obtain ⟨hr, hl4, hk4, ht4, ht5, hs3⟩ := fin none W3 ht3
          exact ⟨_, _, hr, .inl ⟨rfl, ⟨by simpa using hs3, hI s (i + 1) _ _ (by omega) hi3 (ht5.mono fun k _ h => Or.inr h), hl4, hk4⟩, ht4⟩⟩
        | ret =>
          obtain ⟨ht3, hi3⟩ := hp
          obtain ⟨hr, hl4, hk4, ht4, ht5, hs3⟩ := fin (some .ret) W3 ht3
          exact ⟨_, _, hr, .inr ⟨rfl, ⟨by simpa using hs3, .ret, hIx _ s i _ _ (by omega) hi3 (ht5.mono fun k _ h => Or.inr h), hl4, hk4⟩, ht4⟩⟩
        | exit id =>
          obtain ⟨ht3, hi3⟩ := hp
          obtain ⟨hr, hl4, hk4, ht4, ht5, hs3⟩ := fin (some (.exit id)) W3 ht3
          exact ⟨_, _, hr, .inr ⟨rfl, ⟨by simpa using hs3, .exit id, hIx _ s i _ _ (by omega) hi3 (ht5.mono fun k _ h => Or.inr h), hl4, hk4⟩, ht4⟩⟩
        | goto t =>
          obtain ⟨ht3, hi3⟩ := hp
          obtain ⟨hr, hl4, hk4, ht4, ht5, hs3⟩ := fin (some (.goto t)) W3 ht3
          exact ⟨_, _, hr, .inr ⟨rfl, ⟨by simpa using hs3, .goto t, hIx _ s i _ _ (by omega) hi3 (ht5.mono fun k _ h => Or.inr h), hl4, hk4⟩, ht4⟩⟩
        | panic ch => exact hp.elim
        | outgrown => exact hp.elim
      | ret => exact hq
      | exit id => exact hq
      | goto t => exact hq
      | panic ch => exact hq
      | outgrown => exact hq
    · -- behind the iterator
      rintro e W2 ⟨⟨v, rfl⟩, s, hs, hsW, (⟨_, hi, hl, hk⟩ | ⟨i, hin, _, c, hi, hl, hk⟩)⟩
      · have ht : Turned (fun k => w.heap.size ≤ k ∧ k < s) W2 (W2.putObj (w.heap.size + 1) (.loop { rec .ready none with state := .exhausted })) := Turned.putObj _ _ _ ⟨by omega, by omega⟩
        exact ⟨none, _, by have := run_endLoop (P := P) hl (by rw [hrec]; simp); rw [hrec] at this; exact this, hdone _ s _ (Nat.le_refl _) (by omega) (by simpa using hsW) (hI s n _ _ (by omega) hi (by rw [hrec] at ht; exact ht.mono fun k _ h => Or.inr h)) ((World.putObj_heap_other (by omega)).trans hk)⟩
      · have ht : Turned (fun k => w.heap.size ≤ k ∧ k < s) W2 (W2.putObj (w.heap.size + 1) (.loop { rec .done (some c) with state := .exhausted })) := Turned.putObj _ _ _ ⟨by omega, by omega⟩
        exact ⟨some c, _, by have := run_endLoop (P := P) hl (by rw [hrec]; simp); rw [hrec] at this; exact this, hstop _ s i c _ (Nat.le_refl _) (by omega) (by simpa using hsW) hin (hIx c s i _ _ (by omega) hi (by rw [hrec] at ht; exact ht.mono fun k _ h => Or.inr h)) ((World.putObj_heap_other (by omega)).trans hk)⟩

end Go.Proofs.Ythekefnocphcdaa

set_option linter.unusedVariables false

set_option linter.unusedSimpArgs false

namespace Go.Proofs.Ythekefnocphcdaa

open Go.RowKit

def outsTo (f : Flow) : Nat → List Int
  | 0 => []
  | k + 1 => outsTo f k ++ [beforeI f k]

theorem outsTo_len (f : Flow) : ∀ k, (outsTo f k).length = k
  | 0 => rfl
  | k + 1 => by simp [outsTo, outsTo_len f k]

theorem outsTo_at (f : Flow) {j : Nat} : ∀ {k : Nat}, j < k → nth (outsTo f k) j = beforeI f j
  | 0, h => by omega
  | k + 1, h => by
    unfold nth
    simp only [outsTo]
    rw [List.getD_eq_getElem?_getD]
    by_cases e : j < k
    · rw [List.getElem?_append_left (by rw [outsTo_len]; exact e), ← List.getD_eq_getElem?_getD]
      exact outsTo_at f e
    · have : j = k := by omega
      subst this
      rw [List.getElem?_append_right (by rw [outsTo_len]; exact Nat.le_refl _)]
      simp [outsTo_len]

def locV (p : Nat × Nat) : Value := .agg #[.int .i64 (p.1 : Int), .int .i64 (p.2 : Int)]

/-- block bm is a map that says where spots go -/
def WhereMap (w : World) (bm : Nat) (g : Int → Option (Nat × Nat)) : Prop := ∃ al, IntMap w bm al ∧ ∀ x, alook al x = (g x).map locV

theorem WhereMap.lt {w : World} {bm : Nat} {g : Int → Option (Nat × Nat)} (h : WhereMap w bm g) : bm < w.heap.size := by obtain ⟨al, h, _⟩ := h; exact h.lt

theorem WhereMap.below {B : Nat} {w w' : World} {bm : Nat} {g : Int → Option (Nat × Nat)} (h : WhereMap w bm g) (hb : Below B w w') (hB : bm < B) : WhereMap w' bm g := by
  obtain ⟨al, h, h2⟩ := h; exact ⟨al, h.below hb hB, h2⟩

theorem WhereMap.ext {w w' : World} {bm : Nat} {g : Int → Option (Nat × Nat)} (h : WhereMap w bm g) (hb : Below w.heap.size w w') : WhereMap w' bm g := h.below hb h.lt

theorem WhereMap.grown {w w' : World} {bm : Nat} {g : Int → Option (Nat × Nat)} {row : Option Nat} (h : WhereMap w bm g) (hg : w.grownBy w' row) (hne : some bm ≠ row) : WhereMap w' bm g := by
  obtain ⟨al, ⟨es, c, h1, h2⟩, h3⟩ := h
  exact ⟨al, ⟨es, c, (hg.block bm (Array.getElem?_eq_some_iff.1 h1).1 hne).trans h1, h2⟩, h3⟩

theorem WhereMap.made (w : World) (f : Flow) : WhereMap (w.alloc (.map #[] 0)) w.heap.size (fun x => locTo f x 0) := ⟨[], IntMap.made w, fun x => rfl⟩

/-- the first k lots, and i places of the next one -/
def locIn (f : Flow) (k i : Nat) (x : Int) : Option (Nat × Nat) := if hasB ((lotAt f.lots k).ins.take i) x then some (k, (lotAt f.lots k).ins.idxOf x) else locTo f x k

theorem locIn_zero (f : Flow) (k : Nat) : locIn f k 0 = fun x => locTo f x k := by
  funext x; unfold locIn; simp [hasB]

theorem locIn_all (f : Flow) (k : Nat) : locIn f k (lotAt f.lots k).ins.length = fun x => locTo f x (k + 1) := by
  funext x; unfold locIn; rw [List.take_of_length_le (Nat.le_refl _)]; rfl

theorem WhereMap.step {f : Flow} {k i : Nat} {al : AL} (hn : (lotAt f.lots k).ins.Nodup) (hi : i < (lotAt f.lots k).ins.length) (h3 : ∀ x, alook al x = (locIn f k i x).map locV) :
    ∀ x, alook (aset al (nth (lotAt f.lots k).ins i) (locV (k, i))) x = (locIn f k (i + 1) x).map locV := by
  intro x
  rw [alook_aset, h3 x]
  unfold locIn
  rw [hasB_take_succ hi]
  by_cases e : x = nth (lotAt f.lots k).ins i
  · subst e
    have hm : nth (lotAt f.lots k).ins i ∈ (lotAt f.lots k).ins := nth_mem hi
    have hx := nth_idx hm
    have : (lotAt f.lots k).ins.idxOf (nth (lotAt f.lots k).ins i) = i := nth_inj hn hx.1 hi hx.2
    rw [if_pos rfl, this]
    simp
  · rw [if_neg e]
    have e2 : (nth (lotAt f.lots k).ins i == x) = false := by simp; exact fun h => e h.symm
    rw [e2, Bool.or_false]

def IsWeb (B : Nat) (w : World) (vs vl vo vw : Value) (f : Flow) : Prop :=
  IsFlow B w vs vl f ∧ IsInts B w vo (outsTo f f.lots.length) ∧ ∃ bm, vw = .map (some bm) ∧ bm < B ∧ WhereMap w bm (fun x => locTo f x f.lots.length)

theorem IsWeb.below {B B' : Nat} {w w' : World} {vs vl vo vw : Value} {f : Flow} (h : IsWeb B w vs vl vo vw f) (hb : Below B' w w') (hB : B ≤ B') : IsWeb B w' vs vl vo vw f := by
  obtain ⟨h1, h2, bm, h3, h4, h5⟩ := h
  exact ⟨h1.below hb hB, h2.below hb hB, bm, h3, h4, h5.below hb (by omega)⟩

theorem IsWeb.mono {B B' : Nat} {w : World} {vs vl vo vw : Value} {f : Flow} (h : IsWeb B w vs vl vo vw f) (hB : B ≤ B') : IsWeb B' w vs vl vo vw f := by
  obtain ⟨h1, h2, bm, h3, h4, h5⟩ := h
  exact ⟨h1.mono hB, h2.mono hB, bm, h3, by omega, h5⟩

theorem row_ge {v v' : Value} {n m : Nat} (h : v'.ownBlock = v.ownBlock ∨ v'.ownBlock = some n) (hv : ∀ j, v.ownBlock = some j → m ≤ j) (hn : m ≤ n) : ∀ j, v'.ownBlock = some j → m ≤ j := by
  intro j hj
  rcases h with h | h
  · exact hv j (by rw [← h]; exact hj)
  · rw [h] at hj
    injection hj with hj
    omega

/-- what holds in weave's loops -/
def WeaveRel (w : World) (f : Flow) (va : Value) (n : Nat) (g : Int → Option (Nat × Nat)) (wr : World) : Prop :=
  ∃ vo, CellsN wr (w.heap.size + 1 + 1 + 1) #[.int .i64 f.senders, va, vo, .map (some (w.heap.size + 1 + 1))] ∧ CellsN wr (w.heap.size + 1) #[.int .i64 0, .slice none 0 0, .slice none 0 0, .map none] ∧
    WhereMap wr (w.heap.size + 1 + 1) g ∧ OwnInts (w.heap.size + 4) wr vo (outsTo f n) ∧ Below w.heap.size w wr

set_option maxHeartbeats 4000000 in
set_option maxRecDepth 100000 in
/-- bounds.weave -/
theorem weave_any (B : Nat) (w : World) (vs vl : Value) (f : Flow) (hf : IsFlow B w vs vl f) (hB : B ≤ w.heap.size) (h0 : checkE f = 0) :
    Calls Try.prog 76 #[.agg #[vs, vl]] w fun e w' => ∃ vo vw, e = .returned (.agg #[vs, vl, vo, vw]) ∧ IsWeb w'.heap.size w' vs vl vo vw f ∧ Below w.heap.size w w' := by
  have HF := Lib.hid hf
  have H0 := Lib.hid h0
  have hck := checkE_ok h0
  have HV := Lib.hid hck.2.2.2.2
  obtain ⟨hk1, hk2, hk3, hk4, _⟩ := hck
  clear h0 hk4
  obtain ⟨rfl, ⟨hs1, hs2⟩, hl⟩ := hf
  obtain ⟨b, off, cap, ⟨a, rfl, hcap, hmax, ha⟩, hlen, hc⟩ := hl
  have HC := Lib.hid hc
  have HA := Lib.hid ha
  clear hc ha
  have hmm := @run_makeMap Try.prog
  go_enter Try.func76, Try.ntmps76
  have HREL : Hid (WeaveRel w f (.slice a f.lots.length cap) 0 (fun x => locTo f x 0) ((((w.alloc (.cells #[.int .i64 f.senders, .slice a f.lots.length cap] 24)).alloc
      (.cells #[.int .i64 0, .slice none 0 0, .slice none 0 0, .map none] 97)).alloc (.map #[] 0)).alloc (.cells #[.int .i64 f.senders, .slice a f.lots.length cap, .slice none 0 0, .map (some (w.heap.size + 1 + 1))] 97))) := Lib.hid (by
    refine ⟨.slice none 0 0, ?_, ?_, ?_, OwnInts.nil _ _, ((((Below.refl _ w).alloc (Nat.le_refl _) _).alloc (by simp) _).alloc (by simp; omega) _).alloc (by simp; omega) _⟩
    · have h := CellsN.new (((w.alloc (.cells #[.int .i64 f.senders, .slice a f.lots.length cap] 24)).alloc (.cells #[.int .i64 0, .slice none 0 0, .slice none 0 0, .map none] 97)).alloc (.map #[] 0)) #[.int .i64 f.senders, .slice a f.lots.length cap, .slice none 0 0, .map (some (w.heap.size + 1 + 1))] 97
      simp only [World.size_alloc] at h
      exact h
    · have h := ((CellsN.new (w.alloc (.cells #[.int .i64 f.senders, .slice a f.lots.length cap] 24)) #[.int .i64 0, .slice none 0 0, .slice none 0 0, .map none] 97).alloc (.map #[] 0)).alloc (.cells #[.int .i64 f.senders, .slice a f.lots.length cap, .slice none 0 0, .map (some (w.heap.size + 1 + 1))] 97)
      simp only [World.size_alloc] at h
      exact h
    · have h := (WhereMap.made ((w.alloc (.cells #[.int .i64 f.senders, .slice a f.lots.length cap] 24)).alloc (.cells #[.int .i64 0, .slice none 0 0, .slice none 0 0, .map none] 97)) f).ext (box_below' _ (.cells #[.int .i64 f.senders, .slice a f.lots.length cap, .slice none 0 0, .map (some (w.heap.size + 1 + 1))] 97))
      simp only [World.size_alloc] at h
      exact h)
  go_wp2
  go_loopw [4, 17] (fun vn vi wr => ∃ k : Nat, k ≤ f.lots.length ∧ vi = .int .i64 k ∧ vn = .int .i64 (beforeI f k) ∧ WeaveRel w f (.slice a f.lots.length cap) k (fun x => locTo f x k) wr) (fun _ vi _ => f.lots.length - (intOf vi).toNat)
  case atStart => exact ⟨0, by omega, rfl, rfl, HREL.out⟩
  case round =>
    obtain ⟨k, hk, rfl, rfl, vo, hbw, hbr, hmp, hvo, hbl⟩ := hrel
    have HBW := Lib.hid hbw
    have HBR := Lib.hid hbr
    have HMP := Lib.hid hmp
    have HVO := Lib.hid hvo
    have HBL := Lib.hid hbl
    clear HREL hbw hbr hmp hvo hbl
    have hz := HBW.out.lt
    by_cases hlt : k < f.lots.length
    · obtain rfl : a = some ⟨b, off, none⟩ := by rcases HA.out with ha | ha; exact ha; omega
      obtain ⟨vi, vk, vp, hc1, hc2, hc3, hl1, rfl, hl3⟩ := HC.out k hlt
      obtain ⟨bp, op, cp, ⟨ap, rfl, _⟩, _⟩ := hl3
      obtain ⟨bi, oi, ci, ⟨ai, rfl, hci, hmi, hai⟩, hli, hzi, hcci⟩ := hl1
      have HCI := Lib.hid hcci
      have hbb : b < w.heap.size := by have := hc1.1; omega
      have e1 := (HBL.out.cell (p := ⟨b, off + k * 3, none⟩) hbb).trans hc1.2
      have e2 := (HBL.out.cell (p := ⟨b, off + k * 3 + 1, none⟩) hbb).trans hc2.2
      have e3 := (HBL.out.cell (p := ⟨b, off + k * 3 + 2, none⟩) hbb).trans hc3.2
      have hbbr : b < wr.heap.size := by have := HBL.out.size; omega
      have w2 := HBW.out.cell 2
      have w3 := HBW.out.cell 3
      have wf2 := HBW.out.free 2
      simp at w2 w3
      have hbf := before_bd H0.out (show k ≤ f.lots.length by omega)
      have hbf1 := before_bd H0.out (show k + 1 ≤ f.lots.length by omega)
      simp only [beforeI] at hbf1
      have HNB : Hid (beforeI f (k + 1) = beforeI f k + (lotAt f.lots k).ins.length) := Lib.hid rfl
      have HNO : Hid (outsTo f (k + 1) = outsTo f k ++ [beforeI f k]) := Lib.hid rfl
      have HOL := Lib.hid (outsTo_len f k)
      have HND := Lib.hid (lotB_facts (lotsB_lot HV.out hlt)).1
      have HLA := Lib.hid (locIn_all f k)
      obtain ⟨bv, hbv⟩ : ∃ x, beforeI f k = x := ⟨_, rfl⟩
      rw [hbv] at hbf hbf1 HNB HNO ⊢
      have hzr : w.heap.size + 1 + 1 + 1 < wr.heap.size := hz
      clear hc1 hc2 hc3 hcci hzi hbv
      go_wp2_with (at_builtin; refine append_intsA rfl (.tmp 23) (.tmp 25) rfl (B := w.heap.size + 4) (v := vo) (vx := .slice (some ⟨wr.heap.size + 1, 0, none⟩) 1 1) [bv] rfl ((HVO.out.alloc _).alloc _) rfl (src_one (by have h := (Cell1.new (wr.alloc (.cells #[.slice ai (lotAt f.lots k).ins.length ci, .bool (lotAt f.lots k).known, .slice ap (lotAt f.lots k).perm.length cp] 39)) (.int .i64 bv) 3).cell; rw [World.size_alloc] at h; exact h) rfl) (by unfold I64; simp; omega) (by rw [HOL.out]; simp; omega) (by simp; omega) ?_; intro v6 w6 ho6 hg6 hat6; obtain ⟨a6, n6, c6, rfl⟩ := ho6.form'; have HO6 := Lib.hid ho6; have HG6 := Lib.hid hg6; have HRW6 := Lib.hid (row_ge hat6 HVO.out.rows' (by simp; omega)); have HN6 : Hid (∀ j, j < w.heap.size + 4 → some j ≠ vo.ownBlock) := Lib.hid (fun j hj e => by have := HVO.out.rows' _ e.symm; omega); have hm6 := HBW.out.cell 2; have q1 := (((HBW.out.alloc _).alloc _).grown hg6 (HN6.out _ (by omega))).cell 2; have q2 := (((HBW.out.alloc _).alloc _).grown hg6 (HN6.out _ (by omega))).free 2; have q3 := (((CellsN.new wr _ _).alloc _).grown hg6 (fun e => by have := (HVO.out.1.lt _ e.symm).2; omega)).cell 0; simp at q1 q3; clear ho6 hg6 hat6 hm6)
      have HREL : Hid (WeaveRel w f (.slice (some ⟨b, off, none⟩) f.lots.length cap) (k + 1) (locIn f k 0) (w6.setCell ⟨w.heap.size + 1 + 1 + 1, 2, none⟩ (.slice a6 n6 c6))) := Lib.hid (by
        have hg := grown_setCell w6 ⟨w.heap.size + 1 + 1 + 1, 2, none⟩ (.slice a6 n6 c6)
        refine ⟨.slice a6 n6 c6, ?_, ?_, ?_, ?_, ?_⟩
        · have h := (((HBW.out.alloc (.cells #[.slice ai (lotAt f.lots k).ins.length ci, .bool (lotAt f.lots k).known, .slice ap (lotAt f.lots k).perm.length cp] 39)).alloc (.cells #[.int .i64 bv] 3)).grown HG6.out (HN6.out _ (by omega))).set 2 (.slice a6 n6 c6)
          simpa using h
        · exact (((HBR.out.alloc _).alloc _).grown HG6.out (HN6.out _ (by omega))).grown hg (by simp)
        · rw [locIn_zero]
          exact (((HMP.out.ext (box_below' _ _)).ext (box_below' _ _)).grown HG6.out (HN6.out _ (by omega))).grown hg (by simp)
        · rw [HNO.out]
          exact HO6.out.kept hg (Or.inr fun e => by have := HRW6.out (w.heap.size + 1 + 1 + 1) e; omega)
        · exact (((HBL.out.alloc HBL.out.size _).alloc (by have := HBL.out.size; simp; omega) _).grown HG6.out (by have := HBL.out.size; simp; omega) (fun j hj => by have := HVO.out.rows' j hj; omega)).setCell (by show w.heap.size ≤ w.heap.size + 1 + 1 + 1; omega) _)
      obtain ⟨w7, hw7⟩ : ∃ W, w6.setCell ⟨w.heap.size + 1 + 1 + 1, 2, none⟩ (.slice a6 n6 c6) = W := ⟨_, rfl⟩
      rw [hw7] at HREL ⊢
      obtain ⟨n, hn⟩ : ∃ x, (lotAt f.lots k).ins.length = x := ⟨_, rfl⟩
      rw [hn] at HNB HLA
      have HCN := Lib.hid hn
      have hnn : n = n := rfl
      clear hw7 q1 q2 q3 w2 w3 wf2 e1 e2 e3
      rw [hn]
      clear hn hnn
      go_loopw [36] (fun vi wr => ∃ i : Nat, i ≤ n ∧ vi = .int .i64 i ∧ WeaveRel w f (.slice (some ⟨b, off, none⟩) f.lots.length cap) (k + 1) (locIn f k i) wr) (fun vi _ => n - (intOf vi).toNat)
      case atStart => exact ⟨0, by omega, rfl, HREL.out⟩
      case round =>
        obtain ⟨i, hi, rfl, vo7, hbw, hbr, hmp, hvo, hbl⟩ := hrel
        have HBW := Lib.hid hbw
        have HBR := Lib.hid hbr
        have HVO := Lib.hid hvo
        have HBL := Lib.hid hbl
        obtain ⟨al, hal, hal2⟩ := hmp
        have HAL := Lib.hid hal
        have HAL2 := Lib.hid hal2
        clear HREL hbw hbr hvo hbl hal hal2
        by_cases hin : i < n
        · have hin' : i < (lotAt f.lots k).ins.length := by rw [HCN.out]; exact hin
          have w3 := HBW.out.cell 3
          simp at w3
          obtain rfl : ai = some ⟨bi, oi, none⟩ := by rcases hai with ha | ha; exact ha; omega
          have c4 := (HBL.out.cell (p := ⟨bi, oi + i, none⟩) (by have := (HCI.out i hin').1; show bi < _; omega)).trans (HCI.out i hin').2
          have HST := Lib.hid (WhereMap.step HND.out hin' HAL2.out)
          obtain ⟨x, hx⟩ : ∃ x, nth (lotAt f.lots k).ins i = x := ⟨_, rfl⟩
          rw [hx] at c4 HST
          clear hx
          go_wp2_with (at_mapUpdate; refine wpList_update_ints rfl (.tmp 42) (.tmp 43) (.tmp 46) rfl Try.underlying95 Try.underlying3 rfl HAL.out (x := x) (v := locV (k, i)) rfl rfl ?_; intro w8 hm8 hg8 hz8; have HM8 := Lib.hid hm8; have HG8 := Lib.hid hg8; clear hm8 hg8 hz8)
          go_roundw
          case rel =>
            refine ⟨i + 1, by omega, by go_num, vo7, HBW.out.grown HG8.out (by simp), HBR.out.grown HG8.out (by simp), ⟨_, HM8.out, HST.out⟩, HVO.out.kept HG8.out (Or.inr fun e => by have := HVO.out.rows' _ e; omega), HBL.out.grown HG8.out HBL.out.size (fun j hj => by simp at hj; omega)⟩
          case measure => simp [intOf]; omega
        · obtain rfl : i = n := by omega
          have HREL2 : Hid (WeaveRel w f (.slice (some ⟨b, off, none⟩) f.lots.length cap) (k + 1) (fun x => locTo f x (k + 1)) wr) := Lib.hid ⟨vo7, HBW.out, HBR.out, ⟨al, HAL.out, by rw [← HLA.out]; exact HAL2.out⟩, HVO.out, HBL.out⟩
          go_wp2
          go_roundw
          case rel => exact ⟨k + 1, by omega, by go_num, by rw [HNB.out], HREL2.out⟩
          case measure => simp [intOf]; omega
    · obtain rfl : k = f.lots.length := by omega
      have w0 := HBW.out.cell 0
      have w1 := HBW.out.cell 1
      have w2 := HBW.out.cell 2
      have w3 := HBW.out.cell 3
      have r0 := HBR.out.cell 0
      have r1 := HBR.out.cell 1
      have r2 := HBR.out.cell 2
      have r3 := HBR.out.cell 3
      have g0 := HBR.out.free 0
      have g1 := HBR.out.free 1
      have g2 := HBR.out.free 2
      have g3 := HBR.out.free 3
      simp at w0 w1 w2 w3 r0 r1 r2 r3
      obtain ⟨a6, n6, c6, rfl⟩ := HVO.out.form'
      go_wp2
      have hN := (((HBR.out.set 0 (.int .i64 f.senders)).set 1 (.slice a f.lots.length cap)).set 2 (.slice a6 n6 c6)).set 3 (.map (some (w.heap.size + 1 + 1)))
      have n0 := hN.cell 0
      have n1 := hN.cell 1
      have n2 := hN.cell 2
      have n3 := hN.cell 3
      simp at n0 n1 n2 n3
      have hg0 := grown_trans (grown_trans (grown_trans (grown_setCell wr ⟨w.heap.size + 1, 0, none⟩ (.int .i64 f.senders)) (grown_setCell _ ⟨w.heap.size + 1, 1, none⟩ (.slice a f.lots.length cap))) (grown_setCell _ ⟨w.heap.size + 1, 2, none⟩ (.slice a6 n6 c6))) (grown_setCell _ ⟨w.heap.size + 1, 3, none⟩ (.map (some (w.heap.size + 1 + 1))))
      have hbN : Below w.heap.size w _ := HBL.out.grown hg0 HBL.out.size (fun j hj => by simp at hj; omega)
      refine bodyPost_ret (v := .agg #[.int .i64 f.senders, .slice a f.lots.length cap, .slice a6 n6 c6, .map (some (w.heap.size + 1 + 1))]) (by simp [results, Try.results76, go_sem, n0, n1, n2, n3]) rfl ⟨.slice a6 n6 c6, .map (some (w.heap.size + 1 + 1)), rfl, ?_, hbN⟩
      have hm := HMP.out.grown hg0 (by simp)
      exact ⟨(HF.out.below hbN hB).mono (by have := hbN.size; omega), (HVO.out.kept hg0 (Or.inr fun e => by have := HVO.out.rows' (w.heap.size + 1) e; omega)).isInts, _, rfl, hm.lt, hm⟩

end Go.Proofs.Ythekefnocphcdaa

set_option linter.unusedVariables false

set_option linter.unusedSimpArgs false

namespace Go.Proofs.Ythekefnocphcdaa

open Go.RowKit

attribute [local go_sem] Oper.semAt_some

theorem wlots_any (w : World) (B : Nat) (vs vl vo vw : Value) (f : Flow) (s : Int) (hw : IsWeb B w vs vl vo vw f) :
    Calls Try.prog 125 #[.agg #[vs, vl, vo, vw], .int .i64 s] w fun e w' => e = .returned (.func (.func 141) #[] #[.pointer (some ⟨w.heap.size, 0, none⟩), .pointer (some ⟨w.heap.size + 1, 0, none⟩)]) ∧
      w' = (w.alloc (.cells #[vs, vl, vo, vw] 97)).alloc (.cells #[.int .i64 s] 3) := by
  obtain ⟨⟨rfl, _, b, off, cap, ⟨a, rfl, _⟩, _⟩, ⟨b', off', cap', ⟨a', rfl, _⟩, _⟩, bm, rfl, _⟩ := hw
  have hmf := @run_makeFunc_any' Try.prog
  go_enter Try.func125, Try.ntmps125
  go_wp2
  go_ret
  exact ⟨rfl, rfl⟩

theorem Turned.drew {X : Nat → Prop} {a b : World} (h : Turned X a b) : Turned X a b.drew := ⟨h.os, h.tape, h.output, h.size, h.block⟩

/-- the lot into which a spot goes -/
def rnk (f : Flow) (x : Int) : Nat := match locTo f x f.lots.length with | none => f.lots.length | some p => p.1

def cellI (w : World) (b : Nat) : Int := match w.cell? ⟨b, 0, none⟩ with | some (.int _ n) => n | _ => 0

theorem cellI_of {w : World} {b : Nat} {n : Int} (h : Cell1 w b (.int .i64 n)) : cellI w b = n := by unfold cellI; rw [h.cell]

theorem rnk_le (f : Flow) (x : Int) : rnk f x ≤ f.lots.length := by
  unfold rnk
  cases h : locTo f x f.lots.length with
  | none => exact Nat.le_refl _
  | some p => obtain ⟨j, i⟩ := p; have := locTo_in h; simp only; omega

theorem rnk_next {f : Flow} (hv : lotsB f f.lots.length = true) {s : Int} {j : Nat} (hj : j < f.lots.length) : j < rnk f (spotAt f s (j + 1)) := by
  unfold rnk
  cases h : locTo f (spotAt f s (j + 1)) f.lots.length with
  | none => exact hj
  | some p =>
    obtain ⟨j', i'⟩ := p
    have h1 := locTo_in h
    rcases Nat.lt_or_ge j j' with h2 | h2
    · exact h2
    · have := spotAt_not hv s (j + 1) (by omega) j' (by omega)
      rw [h1.2.1] at this
      cases this

theorem vis_at {f : Flow} {s : Int} {k m j : Nat} (hk : k ≤ m) (h : visTo f s k = visTo f s j ++ [k - 1]) : visAt (visTo f s m) (visTo f s j).length = k - 1 ∧ (visTo f s j).length < (visTo f s m).length := by
  obtain ⟨t, ht⟩ := visTo_prefix f s hk
  rw [h] at ht
  rw [ht]
  constructor
  · unfold visAt; simp
  · simp

set_option maxHeartbeats 8000000 in
set_option maxRecDepth 100000 in
/-- the iterator of web.lots -/
theorem wlots_iter (B bw bs : Nat) (w : World) (vs vl vo vw : Value) (f : Flow) (s : Int) (hw : IsWeb B w vs vl vo vw f) (h1 : B ≤ bw) (h2 : bw < bs) (hxw : Box w bw #[vs, vl, vo, vw]) (hxs : Cell1 w bs (.int .i64 s)) (h0 : checkE f = 0) :
    IterM Try.prog (fun k => k = bs) 141 #[.pointer (some ⟨bw, 0, none⟩), .pointer (some ⟨bs, 0, none⟩)] (visTo f s f.lots.length).length (fun i _ args => args = #[.int .i64 ((visAt (visTo f s f.lots.length) i : Nat) : Int)]) (fun k => k < B ∨ k = bw ∨ k = bs) w := by
  intro l ob W J Jx hwW hob hJ hJx hup hst hY
  have hbs := hxs.lt
  have hBw : Below B w W := hwW.below (by omega) (fun k hk hn => hn (Or.inl hk))
  have hsz := hwW.size
  have HX := Lib.hid (hxw.turned hwW (fun h => h (Or.inr (Or.inl rfl))))
  have HS := Lib.hid (hxs.turned hwW (fun h => h (Or.inr (Or.inr rfl))))
  have HWB := Lib.hid (hw.below hBw (Nat.le_refl _))
  have HOB := Lib.hid hob
  have HST := Lib.hid hst
  have HY := Lib.hid hY
  have HJ := Lib.hid hJ
  have HUP := Lib.hid hup
  have hck := checkE_ok h0
  have HV := Lib.hid hck.2.2.2.2
  have HBF := Lib.hid (fun k (hk : k ≤ f.lots.length) => before_bd h0 hk)
  obtain ⟨hk1, hk2, hk3, hk4, _⟩ := hck
  clear hwW hBw hob hJ hJx hup hst hY h0 hk4 hw hxw hxs
  obtain ⟨⟨rfl, ⟨hs1, hs2⟩, b, off, cap, ⟨a, rfl, hcap, hmax, ha⟩, hlen, hc⟩, ⟨b', off', cap', ⟨a', rfl, hcap', hmax', ha'⟩, hlen', hz', hc'⟩, bm, rfl, hbm, al, hal, hal2⟩ := HWB.out
  have HC := Lib.hid hc
  have HC' := Lib.hid hc'
  have HA := Lib.hid ha
  have HA' := Lib.hid ha'
  have HAL := Lib.hid hal
  have HAL2 := Lib.hid hal2
  have HOLN := Lib.hid (outsTo_len f f.lots.length)
  clear hc hc' ha ha' hz' hal hal2
  refine callsIn_of_wp Try.func141 rfl trivial ?_ rfl
  simp only [Try.ntmps141, List.size_toArray, List.length_cons, List.length_nil, Nat.reduceAdd, Nat.reduceSub, Array.replicate_succ, Array.replicate_zero, List.push_toArray, List.append_toArray, List.nil_append, List.cons_append]
  gi_wp2
  gi_loopw [] (fun W2 => ∃ K s' : Nat, K ≤ f.lots.length ∧ Cell1 W2 bs (.int .i64 (spotAt f s K)) ∧ unkTo f s K < 0 ∧ W.heap.size ≤ s' ∧ s' ≤ W2.heap.size ∧ J s' (visTo f s K).length W2 ∧ Turned (fun k => ob k ∨ W.heap.size ≤ k ∨ k = bs) W W2) (fun W2 => f.lots.length + 1 - rnk f (cellI W2 bs))
  case atStart => exact ⟨0, W.heap.size, by omega, HS.out, by simp [unkTo], Nat.le_refl _, Nat.le_refl _, HST.out _ _ (Nat.le_refl _) (Nat.le_refl _) (Below.refl _ _), Turned.refl _ _⟩
  case round =>
    obtain ⟨K, s', hK, hcs, hu, hs', hs'2, hj, ht⟩ := hrel
    have HCS := Lib.hid hcs
    have HU := Lib.hid hu
    have HJ3 := Lib.hid hj
    have HT := Lib.hid ht
    have HBB : Hid (Below B W wr) := Lib.hid (ht.below (by omega) (fun k hk h => by rcases h with h | h | h; have := (HOB.out k h).2; omega; omega; omega))
    have HXR := Lib.hid (HX.out.turned ht (fun h => by rcases h with h | h | h; have := (HOB.out _ h).2; omega; omega; omega))
    have HALR := Lib.hid (HAL.out.below HBB.out hbm)
    have hszr := ht.size
    obtain ⟨zr, rr⟩ := HXR.out
    have b0 := rr 0
    have b1 := rr 1
    have b2 := rr 2
    have b3 := rr 3
    simp at b0 b1 b2 b3
    have cs0 := hcs.cell
    clear hcs hu hj ht rr
    obtain ⟨c, hc⟩ : ∃ c, spotAt f s K = c := ⟨_, rfl⟩
    have HCC := Lib.hid hc
    rw [hc] at HCS cs0
    clear hc
    have HLK := Lib.hid (HAL2.out c)
    cases hloc : locTo f c f.lots.length with
    | none =>
      have HAT : Hid (alook al c = none) := Lib.hid (by rw [HLK.out, hloc]; rfl)
      have HVS : Hid (visTo f s f.lots.length = visTo f s K) := Lib.hid (no_lot hK (Int.not_le.2 HU.out) (by rw [HCC.out]; exact hloc))
      clear hloc
      gi_wp2_with (gi_at_lookup; refine wpListIn_lookup_ints rfl (.tmp 8) (.tmp 9) true rfl Try.underlying95 Try.underlying3 (Try.zeroValue119 _) rfl HALR.out rfl ?_; rw [HAT.out]; simp only [Option.getD_none, Option.isSome_none, if_true])
      refine ⟨fun _ h => (by cases h), ?_⟩
      gi_wp2
      refine bodyPost_ret (results_none rfl _ _ _) rfl ?_
      refine ⟨⟨_, rfl⟩, s', hs', by simp; omega, Or.inl ?_⟩
      rw [HVS.out]
      exact HJ.out _ _ _ _ hs' HJ3.out (Turned.of_below (box_below' _ _))
    | some p =>
      obtain ⟨j, i⟩ := p
      have hin := locTo_in hloc
      have hnx := next_lot HV.out hK (Int.not_le.2 HU.out) hin.1 (by rw [HCC.out]; exact hin.2.1)
      have HAT : Hid (alook al c = some (.agg #[.int .i64 (j : Int), .int .i64 (i : Int)])) := Lib.hid (by rw [HLK.out, hloc]; rfl)
      have HRK : Hid (rnk f c = j) := Lib.hid (by unfold rnk; rw [hloc])
      obtain ⟨hin1, hin2, hin3⟩ := hin
      obtain ⟨hn1, hn2, hn3, hn4⟩ := hnx
      have hva := vis_at (f := f) (s := s) (k := j + 1) (m := f.lots.length) (j := K) (by omega) (by simpa using hn4)
      simp only [Nat.add_sub_cancel] at hva
      have HVA := Lib.hid hva
      have HV4 := Lib.hid hn4
      have HN2 : Hid (spotAt f s j = c) := Lib.hid (by rw [hn2, HCC.out])
      have HN3 := Lib.hid hn3
      have HI3 := Lib.hid hin3
      have HHAS := Lib.hid hin2
      have hil : i < (lotAt f.lots j).ins.length := by rw [hin3]; exact (nth_idx (hasB_iff.1 hin2)).1
      obtain ⟨idx, hidx⟩ : ∃ x, (visTo f s K).length = x := ⟨_, rfl⟩
      rw [hidx] at HVA HJ3
      have HVL : Hid ((visTo f s (j + 1)).length = idx + 1) := Lib.hid (by rw [HV4.out, ← hidx]; simp)
      -- the lot
      obtain rfl : a = some ⟨b, off, none⟩ := by rcases HA.out with ha | ha; exact ha; omega
      obtain rfl : a' = some ⟨b', off', none⟩ := by rcases HA'.out with ha | ha; exact ha; have := HOLN.out; omega
      obtain ⟨vi, vk, vp, hc1, hc2, hc3, hl1, rfl, hl3⟩ := HC.out j hin1
      obtain ⟨bp, op, cp, ⟨ap, rfl, hcp, hmp, hap⟩, hlp, hzp, hccp⟩ := hl3
      have HCP := Lib.hid hccp
      have HC2 := Lib.hid hc2
      have HC3 := Lib.hid hc3
      have HCO := Lib.hid (HC'.out j (by rw [HOLN.out]; exact hin1))
      rw [outsTo_at f hin1] at HCO
      have hpl : ∀ hkn : (lotAt f.lots j).known = true, (lotAt f.lots j).perm.length = (lotAt f.lots j).ins.length := fun hkn => perm_len HV.out hin1 hkn
      have HPL := Lib.hid hpl
      have HPP := Lib.hid (fun hkn : (lotAt f.lots j).known = true => perm_lt HV.out hin1 hkn hil)
      have hbf := HBF.out j (by omega)
      have hbf1 := HBF.out (j + 1) (by omega)
      simp only [beforeI] at hbf1
      clear hloc hin2 hin3 hn2 hn3 hn4 hva hidx hc1 hc2 hc3 hl1 hccp hzp hpl
      -- the yield
      obtain ⟨W3, hW3⟩ : ∃ W3, wr.alloc (.cells #[.int .i64 (j : Int), .int .i64 (i : Int)] 119) = W3 := ⟨_, rfl⟩
      have hJ3 : J W3.heap.size idx W3 := by
        rw [← hW3]
        refine HUP.out s' _ _ _ (by simp; omega) (Nat.le_refl _) (HJ.out _ _ _ _ hs' HJ3.out (Turned.of_below (box_below' _ _)))
      have HC3' : Hid (CellsN W3 wr.heap.size #[.int .i64 (j : Int), .int .i64 (i : Int)]) := Lib.hid (by rw [← hW3]; exact CellsN.new _ _ _)
      have HT3 : Hid (Turned (fun k => ob k ∨ W.heap.size ≤ k ∨ k = bs) W W3) := Lib.hid (by rw [← hW3]; exact HT.out.trans (Turned.of_below (box_below' _ _)))
      have HCS3 : Hid (Cell1 W3 bs (.int .i64 c)) := Lib.hid (by rw [← hW3]; exact HCS.out.alloc _)
      have hsz3 : W3.heap.size = wr.heap.size + 1 := by rw [← hW3]; simp
      have hsz3' : wr.heap.size < W3.heap.size := by omega
      have hsz3'' : W.heap.size ≤ W3.heap.size := by omega
      have HYY := Lib.hid (HY.out W3.heap.size idx W3 _ hsz3'' (Nat.le_refl _) HVA.out.2 hJ3 rfl)
      rw [HVA.out.1] at HYY
      have HB3 : Hid (Below B W W3) := Lib.hid (HT3.out.below (by omega) (fun k hk h => by rcases h with h | h | h; have := (HOB.out k h).2; omega; omega; omega))
      have HX3 := Lib.hid (HX.out.turned HT3.out (fun h => by rcases h with h | h | h; have := (HOB.out _ h).2; omega; omega; omega))
      obtain ⟨fn, tmps, assign, body, hy, hR⟩ := HYY.out
      have HR := Lib.hid hR
      have HW3 := Lib.hid hW3
      have t0 := HC3'.out.cell 0
      simp at t0
      clear hJ3 hR hsz3
      have hdp : Fence.wide.depth.isSome = true → 1 ≤ 10 := fun _ => by omega
      gi_wp2_with (gi_at_lookup; refine wpListIn_lookup_ints rfl (.tmp 8) (.tmp 9) true rfl Try.underlying95 Try.underlying3 (Try.zeroValue119 _) rfl HALR.out rfl ?_; rw [HAT.out]; simp only [Option.getD_some, Option.isSome_some, if_true])
      refine HR.out.mono ?_
      have HOW : Hid (∀ k, ob k ∨ W3.heap.size ≤ k → ¬ (k < B ∨ k = bw ∨ k = bs) ∧ k ≠ wr.heap.size) := Lib.hid fun q hq => by
        rcases hq with hq | hq
        · have := HOB.out q hq; omega
        · omega
      clear zr b0 b1 b2 b3 cs0 t0 hy
      rintro e W' (⟨rfl, hJ', ht'⟩ | ⟨rfl, hJx', ht'⟩)
      · have HJ4 := Lib.hid hJ'
        have HT4 := Lib.hid ht'
        have HBP : Hid (Below B W W') := Lib.hid (HB3.out.trans (ht'.below (by have := HB3.out.size; omega) (fun k hk h => by have := HOW.out k h; omega)))
        have HX4 := Lib.hid (HX3.out.turned ht' (fun h => by have := HOW.out _ h; omega))
        have HC4 : Hid (CellsN W' wr.heap.size #[.int .i64 (j : Int), .int .i64 (i : Int)]) := Lib.hid (by
          obtain ⟨t, hh⟩ := HC3'.out
          exact ⟨t, (ht'.block wr.heap.size hsz3' (fun h => (HOW.out _ h).2 rfl)).trans hh⟩)
        have HCS4 := Lib.hid (HCS3.out.turned ht' (fun h => by have := HOW.out _ h; omega))
        have HTT : Hid (Turned (fun k => ob k ∨ W.heap.size ≤ k ∨ k = bs) W W') := Lib.hid (HT3.out.trans (ht'.mono (fun k _ h => by rcases h with h | h; exact Or.inl h; exact Or.inr (Or.inl (by omega)))))
        have hsz4 := ht'.size
        clear hJ' ht'
        obtain ⟨zr, rr⟩ := HX4.out
        have b1 := rr 1
        have b2 := rr 2
        simp at b1 b2
        have t0 := HC4.out.cell 0
        have t1 := HC4.out.cell 1
        simp at t0 t1
        have kc := (HBP.out.cell (p := ⟨b, off + j * 3 + 1, none⟩) HC2.out.1).trans HC2.out.2
        have pc := (HBP.out.cell (p := ⟨b, off + j * 3 + 2, none⟩) HC3.out.1).trans HC3.out.2
        have oc := (HBP.out.cell (p := ⟨b', off' + j, none⟩) HCO.out.1).trans HCO.out.2
        have hj0 : (0 : Int) ≤ (j : Int) := Int.natCast_nonneg _
        have hj1 : (j : Int) < (f.lots.length : Int) := by omega
        clear rr
        have HSN : Hid (spotAt f s (j + 1) = beforeI f j + nth (lotAt f.lots j).perm i) := Lib.hid (by
          simp only [spotAt]
          rw [HN2.out, if_pos HHAS.out, ← HI3.out])
        have HUN : Hid ((lotAt f.lots j).known = true → unkTo f s (j + 1) < 0) := Lib.hid fun hkn => by
          simp only [unkTo]
          rw [if_neg (Int.not_le.2 HN3.out), hkn]
          simp
        have HUK : Hid ((lotAt f.lots j).known = false → (visTo f s f.lots.length).length = idx + 1) := Lib.hid fun hkn => by
          have h0 : 0 ≤ unkTo f s (j + 1) := by
            simp only [unkTo]
            rw [if_neg (Int.not_le.2 HN3.out), HN2.out, HHAS.out, hkn]
            simp
          rw [visTo_stay h0 (by omega), HVL.out]
        cases hkn : (lotAt f.lots j).known
        · rw [hkn] at kc
          have HK1 := Lib.hid (HUK.out hkn)
          clear hkn
          gi_wp2
          refine bodyPost_ret (results_none rfl _ _ _) rfl ?_
          refine ⟨⟨_, rfl⟩, W3.heap.size, hsz3'', hsz4, Or.inl ?_⟩
          rw [HK1.out]
          exact HJ4.out
        · rw [hkn] at kc
          have HK1 := Lib.hid (HUN.out hkn)
          have hpl := HPL.out hkn
          have hpp := HPP.out hkn
          have hip : i < (lotAt f.lots j).perm.length := by omega
          obtain rfl : ap = some ⟨bp, op, none⟩ := by rcases hap with ha | ha; exact ha; omega
          have pe := (HBP.out.cell (p := ⟨bp, op + i, none⟩) (HCP.out i hip).1).trans (HCP.out i hip).2
          have hi0 : (0 : Int) ≤ (i : Int) := Int.natCast_nonneg _
          obtain ⟨pv, hpv⟩ : ∃ x, nth (lotAt f.lots j).perm i = x := ⟨_, rfl⟩
          obtain ⟨bv, hbv⟩ : ∃ x, beforeI f j = x := ⟨_, rfl⟩
          obtain ⟨np, hnp⟩ : ∃ x, (lotAt f.lots j).perm.length = x := ⟨_, rfl⟩
          rw [hpv] at pe hpp HSN
          rw [hbv] at oc hbf hbf1 HSN
          rw [hnp] at pc hip hcp
          have hi1 : (i : Int) < (np : Int) := by omega
          have hw1 : IntKind.i64.wrap (bv + pv) = bv + pv := by rw [IntWalk.i64_in _ (by omega)]
          have bsc := HCS4.out.cell
          have bsf := HCS4.out.free
          have hol : ((outsTo f f.lots.length).length : Int) = (f.lots.length : Int) := by rw [HOLN.out]
          have ho1 : (j : Int) < ((outsTo f f.lots.length).length : Int) := by omega
          clear hkn hpv hbv hnp hpl hol
          have HSC : Hid (Cell1 (W'.setCell ⟨bs, 0, none⟩ (.int .i64 (bv + pv))).drew bs (.int .i64 (spotAt f s (j + 1)))) := Lib.hid (by rw [HSN.out]; exact HCS4.out.set _)
          have HTS : Hid (∀ X : Nat → Prop, X bs → Turned X W' (W'.setCell ⟨bs, 0, none⟩ (.int .i64 (bv + pv))).drew) := Lib.hid fun X hx =>
            Turned.drew (Turned.of_grown (grown_setCell W' ⟨bs, 0, none⟩ (.int .i64 (bv + pv))) (fun k e => by cases e; exact hx))
          gi_wp2
          gi_region
          gi_wp2
          go_roundw
          case rel =>
            refine ⟨j + 1, W3.heap.size, by omega, HSC.out, HK1.out, hsz3'', ?_, ?_, ?_⟩
            · exact Nat.le_trans hsz4 ((HTS.out (fun k => k = bs) rfl).size)
            · rw [HVL.out]
              exact HJ.out _ _ _ _ hsz3'' HJ4.out (HTS.out _ (Or.inl rfl))
            · exact HTT.out.trans (HTS.out _ (Or.inr (Or.inr rfl)))
          case measure =>
            have m1 := cellI_of HSC.out
            have m2 := cellI_of HCS.out
            have m3 := rnk_next HV.out (s := s) hin1
            have m4 := rnk_le f (spotAt f s (j + 1))
            have m5 := HRK.out
            first
              | (rw [m1, m2, m5]; omega)
              | (simp only [] at *; rw [m1, m2, m5]; omega)
      · have HJ4 := Lib.hid hJx'
        have HT4 := Lib.hid ht'
        have hsz4 := ht'.size
        clear hJx' ht'
        have HE2 := Lib.hid HVA.out.2
        gi_wp2
        refine bodyPost_ret (results_none rfl _ _ _) rfl ?_
        exact ⟨⟨_, rfl⟩, W3.heap.size, hsz3'', hsz4, Or.inr ⟨_, HE2.out, HJ4.out⟩⟩

end Go.Proofs.Ythekefnocphcdaa

set_option linter.unusedVariables false

set_option linter.unusedSimpArgs false

namespace Go.Proofs.Ythekefnocphcdaa

open Go.RowKit

attribute [local go_sem] Oper.semAt_some

theorem visAt_in {l : List Nat} {i : Nat} (h : i < l.length) : visAt l i ∈ l := by
  unfold visAt
  rw [List.getD_eq_getElem?_getD, List.getElem?_eq_getElem h]
  exact List.getElem_mem h

theorem visAt_all {l : List Nat} {p : Nat → Prop} (h : ∀ i, i < l.length → p (visAt l i)) : ∀ j ∈ l, p j := by
  intro j hj
  obtain ⟨i, hi, rfl⟩ := List.getElem_of_mem hj
  have := h i hi
  unfold visAt at this
  rw [List.getD_eq_getElem?_getD, List.getElem?_eq_getElem hi] at this
  exact this

set_option maxHeartbeats 4000000 in
set_option maxRecDepth 100000 in
/-- web.unknown -/
theorem wunknown_any (B : Nat) (w : World) (vs vl vo vw : Value) (f : Flow) (s : Int) (hw : IsWeb B w vs vl vo vw f) (hB : B ≤ w.heap.size) (h0 : checkE f = 0) :
    Calls Try.prog 103 #[.agg #[vs, vl, vo, vw], .int .i64 s] w fun e w' => e = .returned (.int .i64 (unkI f s)) ∧ Below w.heap.size w w' := by
  have HWB := Lib.hid hw
  have H0 := Lib.hid h0
  obtain ⟨⟨rfl, ⟨hs1, hs2⟩, b, off, cap, ⟨a, rfl, hcap, hmax, ha⟩, hlen, hc⟩, ⟨b', off', cap', ⟨a', rfl, hcap', hmax', ha'⟩, hlen', hz', hc'⟩, bm, rfl, hbm, hmap⟩ := hw
  have HC := Lib.hid hc
  have HA := Lib.hid ha
  clear hc hc' ha ha' hz' hmap h0
  obtain ⟨vo, hvo⟩ : ∃ v, Value.slice a' (outsTo f f.lots.length).length cap' = v := ⟨_, rfl⟩
  have hvl : ∃ n, (outsTo f f.lots.length).length = n := ⟨_, rfl⟩
  clear hvo vo hvl
  have hmf := @run_makeFunc_any' Try.prog
  refine (callsIn_wide (n := 11)).1 ?_
  refine callsIn_of_wp_marks Try.func103 rfl trivial ?_ rfl
  simp only [Try.ntmps103, List.size_toArray, List.length_cons, List.length_nil, Nat.reduceAdd, Nat.reduceSub, Array.replicate_succ, Array.replicate_zero, List.push_toArray, List.append_toArray, List.nil_append, List.cons_append]
  gi_wp2_with fail
  refine ⟨trivial, (callsIn_wide.2 (wlots_any _ B _ _ _ _ f s (HWB.out.below ((((Below.refl B w).alloc hB _).alloc (by simp; omega) _)) (Nat.le_refl _)))).mono ?_⟩
  rintro e w6 ⟨rfl, hw6⟩
  have HX6 : Hid (Box w6 w.heap.size #[.int .i64 f.senders, .slice a f.lots.length cap, .slice a' (outsTo f f.lots.length).length cap', .map (some bm)]) := Lib.hid (by
    rw [hw6]; exact (((Box.new w _ _).alloc _).alloc _).alloc _)
  have HL6 : Hid (Cell1 w6 (w.heap.size + 1) (.int .i64 0)) := Lib.hid (by
    rw [hw6]
    have h := ((Cell1.new (w.alloc (.cells #[.int .i64 f.senders, .slice a f.lots.length cap, .slice a' (outsTo f f.lots.length).length cap', .map (some bm)] 97)) (.int .i64 0) 3).alloc (.cells #[.int .i64 f.senders, .slice a f.lots.length cap, .slice a' (outsTo f f.lots.length).length cap', .map (some bm)] 97)).alloc (.cells #[.int .i64 s] 3)
    simp only [World.size_alloc] at h
    exact h)
  have HXW : Hid (Box w6 (w.heap.size + 2) #[.int .i64 f.senders, .slice a f.lots.length cap, .slice a' (outsTo f f.lots.length).length cap', .map (some bm)]) := Lib.hid (by
    rw [hw6]
    have h := (Box.new ((w.alloc (.cells #[.int .i64 f.senders, .slice a f.lots.length cap, .slice a' (outsTo f f.lots.length).length cap', .map (some bm)] 97)).alloc (.cells #[.int .i64 0] 3)) #[.int .i64 f.senders, .slice a f.lots.length cap, .slice a' (outsTo f f.lots.length).length cap', .map (some bm)] 97).alloc (.cells #[.int .i64 s] 3)
    simp only [World.size_alloc] at h
    exact h)
  have HXS : Hid (Cell1 w6 (w.heap.size + 3) (.int .i64 s)) := Lib.hid (by
    rw [hw6]
    have h := Cell1.new (((w.alloc (.cells #[.int .i64 f.senders, .slice a f.lots.length cap, .slice a' (outsTo f f.lots.length).length cap', .map (some bm)] 97)).alloc (.cells #[.int .i64 0] 3)).alloc (.cells #[.int .i64 f.senders, .slice a f.lots.length cap, .slice a' (outsTo f f.lots.length).length cap', .map (some bm)] 97)) (.int .i64 s) 3
    simp only [World.size_alloc] at h
    exact h)
  have HW6 : Hid (Below w.heap.size w w6) := Lib.hid (by rw [hw6]; exact ((((Below.refl _ w).alloc (Nat.le_refl _) _).alloc (by simp) _).alloc (by simp; omega) _).alloc (by simp; omega) _)
  have HSZ6 : Hid (w6.heap.size = w.heap.size + 4) := Lib.hid (by rw [hw6]; simp)
  clear hw6
  obtain ⟨L, hL⟩ : ∃ l, visTo f s f.lots.length = l := ⟨_, rfl⟩
  have HIT := Lib.hid (wlots_iter B (w.heap.size + 2) (w.heap.size + 3) w6 _ _ _ _ f s (HWB.out.below HW6.out hB) (by omega) (by omega) HXW.out HXS.out H0.out)
  have HVU := Lib.hid (fun j hj hk => vis_unknown f s f.lots.length j hj hk)
  have HVK := Lib.hid (vis_known f s f.lots.length)
  have HVL := Lib.hid (visTo_lt f s f.lots.length)
  rw [hL] at HIT HVU HVK HVL
  clear hL
  simp only [World.size_alloc]
  gi_wp2
  refine range_lawM (w := w6) rfl (enters_of Try.func141 (by kernel_rfl) rfl) HIT.out (fun k hk => Or.inr (Or.inr hk)) (Turned.refl _ _)
    (fun k hk => by have := HSZ6.out; omega) (fun k => k = w.heap.size + 1) (fun k hk => by have := HSZ6.out; omega)
    (fun i W args h => by rw [h]; rfl) (fun i A B args h _ => h)
    (fun s i W => Cell1 W (w.heap.size + 1) (.int .i64 0) ∧ Box W w.heap.size #[.int .i64 f.senders, .slice a f.lots.length cap, .slice a' (outsTo f f.lots.length).length cap', .map (some bm)] ∧ Below w.heap.size w W ∧ ∀ m, m < i → (lotAt f.lots (visAt L m)).known = true)
    (fun c s i W => c = .ret ∧ Cell1 W (w.heap.size + 1) (.int .i64 ((visAt L i : Nat) : Int)) ∧ Below w.heap.size w W ∧ (lotAt f.lots (visAt L i)).known = false) ?hI ?hIx (fun _ _ _ _ _ _ h => h) ?h0 ?hround ?hdone ?hstop
  case hI =>
    rintro s' i A A' hs ⟨h1, h2, h3, h4⟩ ht
    have := HSZ6.out
    exact ⟨h1.turned ht (fun h => by omega), h2.turned ht (fun h => by omega), h3.trans (ht.below h3.size (fun k hk h => by omega)), h4⟩
  case hIx =>
    rintro c s' i A A' hs ⟨rfl, h1, h2, h3⟩ ht
    have := HSZ6.out
    exact ⟨rfl, h1.turned ht (fun h => by omega), h2.trans (ht.below h2.size (fun k hk h => by omega)), h3⟩
  case h0 =>
    intro s' W1 hs hs1 hb
    exact ⟨HL6.out.ext hb, HX6.out.ext hb, HW6.out.trans (hb.mono HW6.out.size), fun m hm => by omega⟩
  case hround =>
    rintro l s' i W args hs hsW hi ⟨h1, h2, h3, h4⟩ rfl
    gi_wp2
    refine ⟨Below.refl _ _, fun W2 ht => ?_⟩
    have h6 := HSZ6.out
    have q1 := h1.turned ht (fun h => by omega)
    have HQ2 := Lib.hid (h2.turned ht (fun h => by omega))
    have HB2 : Hid (Below w.heap.size w W2) := Lib.hid (h3.trans (ht.below h3.size (fun k hk h => by omega)))
    have HQ1 := Lib.hid q1
    have HK4 := Lib.hid h4
    have HSZ : Hid (s' ≤ W2.heap.size) := Lib.hid (by have := ht.size; omega)
    have hjm := visAt_in hi
    have hjl := HVL.out _ hjm
    obtain ⟨j, hj⟩ : ∃ j, visAt L i = j := ⟨_, rfl⟩
    have HJJ := Lib.hid hj
    rw [hj] at hjl ⊢
    obtain rfl : a = some ⟨b, off, none⟩ := by rcases HA.out with ha | ha; exact ha; omega
    obtain ⟨vi, vk, vp, hc1, hc2, hc3, hl1, rfl, hl3⟩ := HC.out j hjl
    have kc := (HB2.out.cell (p := ⟨b, off + j * 3 + 1, none⟩) (by have := hc2.1; show b < _; omega)).trans hc2.2
    obtain ⟨zr, rr⟩ := HQ2.out
    have b1 := rr 1
    simp at b1
    have c1 := q1.cell
    have c2 := q1.free
    clear h1 h2 h3 h4 q1 ht hjm hj hc1 hc2 hc3 hl1 hl3 rr
    cases hkn : (lotAt f.lots j).known
    · rw [hkn] at kc
      have HKN : Hid ((lotAt f.lots (visAt L i)).known = false) := Lib.hid (by rw [HJJ.out]; exact hkn)
      clear hkn
      gi_wp2
      have hgs := grown_setCell W2 ⟨w.heap.size + 1, 0, none⟩ (.int .i64 (j : Int))
      have hts : Turned (fun k => k = w.heap.size + 1 ∨ s' ≤ k) W2 (W2.setCell ⟨w.heap.size + 1, 0, none⟩ (.int .i64 (j : Int))) := Turned.of_grown hgs (fun k e => by cases e; exact Or.inl rfl)
      refine ⟨hts, rfl, ?_, HB2.out.setCell (by show w.heap.size ≤ w.heap.size + 1; omega) _, HKN.out⟩
      rw [HJJ.out]
      exact HQ1.out.set _
    · rw [hkn] at kc
      have HKN : Hid ((lotAt f.lots (visAt L i)).known = true) := Lib.hid (by rw [HJJ.out]; exact hkn)
      clear hkn
      gi_wp2
      refine ⟨Turned.refl _ _, HQ1.out, HQ2.out, HB2.out, fun m hm => ?_⟩
      by_cases e : m = i
      · subst e; exact HKN.out
      · exact HK4.out m (by omega)
  case hdone =>
    rintro d s' W hd hds hsW ⟨h1, h2, h3, h4⟩ hk
    have HD := Lib.hid hk
    have HN : Hid (unkI f s = -1) := Lib.hid (HVK.out (visAt_all h4))
    have H1' := Lib.hid h1
    have H3' := Lib.hid h3
    have c1 := h1.cell
    have c2 := h1.free
    clear h1 h2 h3 h4 hk
    gi_wp2
    have hdb : w.heap.size + 1 ≠ d := by have := HSZ6.out; omega
    have hK : (W.setCell ⟨w.heap.size + 1, 0, none⟩ (.int .i64 (-1))).heap[d]? = some (.deferred (some [])) := (Below.heap_setCell W _ _ d (fun e => hdb e.symm)).trans HD.out
    refine ⟨by simp, .inl ⟨_, _, rfl, run_takeDeferred hK, ?_⟩⟩
    have hts : Turned (fun k => k = w.heap.size + 1 ∨ k = d) W ((W.setCell ⟨w.heap.size + 1, 0, none⟩ (.int .i64 (-1))).putObj d (.deferred none)) :=
      (Turned.of_grown (grown_setCell W ⟨w.heap.size + 1, 0, none⟩ (.int .i64 (-1))) (fun k e => by cases e; exact Or.inl rfl)).trans (Turned.putObj _ _ _ (Or.inr rfl))
    have hcl : ((W.setCell ⟨w.heap.size + 1, 0, none⟩ (.int .i64 (-1))).putObj d (.deferred none)).cell? ⟨w.heap.size + 1, 0, none⟩ = some (.int .i64 (-1)) :=
      (World.cell?_of_block (World.putObj_heap_other (w := W.setCell ⟨w.heap.size + 1, 0, none⟩ (.int .i64 (-1))) hdb)).trans (H1'.out.set _).cell
    refine ⟨.int .i64 (-1), by simp [results, Try.results103, go_sem, hcl], by rw [HN.out], ?_⟩
    exact H3'.out.trans (hts.below H3'.out.size (fun k hk h => by have := HSZ6.out; omega))
  case hstop =>
    rintro d s' i c W hd hds hsW hi ⟨rfl, h1, h3, h4⟩ hk
    have HD := Lib.hid hk
    have HN : Hid (unkI f s = ((visAt L i : Nat) : Int)) := Lib.hid (HVU.out _ (visAt_in hi) h4)
    have H1' := Lib.hid h1
    have H3' := Lib.hid h3
    clear h1 h3 h4 hk
    obtain ⟨j, hj⟩ : ∃ j, visAt L i = j := ⟨_, rfl⟩
    rw [hj] at H1' HN
    clear hj
    gi_wp2
    have hdb : w.heap.size + 1 ≠ d := by have := HSZ6.out; omega
    refine ⟨by simp, .inl ⟨_, _, rfl, run_takeDeferred HD.out, ?_⟩⟩
    have hts : Turned (fun k => k = w.heap.size + 1 ∨ k = d) W (W.putObj d (.deferred none)) := Turned.putObj _ _ _ (Or.inr rfl)
    have hcl : (W.putObj d (.deferred none)).cell? ⟨w.heap.size + 1, 0, none⟩ = some (.int .i64 (j : Int)) :=
      (World.cell?_of_block (World.putObj_heap_other (w := W) hdb)).trans H1'.out.cell
    refine ⟨.int .i64 (j : Int), by simp [results, Try.results103, go_sem, hcl], by rw [HN.out], ?_⟩
    exact H3'.out.trans (hts.below H3'.out.size (fun k hk h => by have := HSZ6.out; omega))

end Go.Proofs.Ythekefnocphcdaa

set_option linter.unusedVariables false

set_option linter.unusedSimpArgs false

namespace Go.Proofs.Ythekefnocphcdaa

open Go.RowKit

theorem bool_info : (Try.prog.info? 4).map (fun i => (i.zero, i.size, i.bytes)) = some (some (.bool false), 1, 1) := by kernel_rfl

/-- block b is a row of n truth values -/
def BoolRow (w : World) (b n : Nat) (p : Nat → Bool) : Prop := ∃ c t, w.heap[b]? = some (.cells c t (0, 0)) ∧ c.size = n ∧ ∀ i, i < n → c[i]? = some (.bool (p i))

theorem BoolRow.lt {w : World} {b n : Nat} {p : Nat → Bool} (h : BoolRow w b n p) : b < w.heap.size := by obtain ⟨c, t, h, _⟩ := h; exact (Array.getElem?_eq_some_iff.1 h).1

theorem BoolRow.grown {w w' : World} {b n : Nat} {p : Nat → Bool} {row : Option Nat} (h : BoolRow w b n p) (hg : w.grownBy w' row) (hne : some b ≠ row) : BoolRow w' b n p := by
  have hl := h.lt
  obtain ⟨c, t, h, r⟩ := h
  exact ⟨c, t, (hg.block b hl hne).trans h, r⟩

theorem BoolRow.ext {w w' : World} {b n : Nat} {p : Nat → Bool} (h : BoolRow w b n p) (hb : Below w.heap.size w w') : BoolRow w' b n p :=
  h.grown (row := none) ⟨hb.os, hb.tape, hb.output, hb.size, fun k hk _ => hb.block k hk⟩ (by simp)

theorem BoolRow.alloc {w : World} {b n : Nat} {p : Nat → Bool} (h : BoolRow w b n p) (o : Obj) : BoolRow (w.alloc o) b n p := h.ext (box_below' w o)

theorem BoolRow.cell {w : World} {b n i : Nat} {p : Nat → Bool} (h : BoolRow w b n p) (hi : i < n) : w.cell? ⟨b, i, none⟩ = some (.bool (p i)) := by
  obtain ⟨c, t, h, _, r⟩ := h
  simp only [World.cell?, h]
  exact r i hi

theorem BoolRow.free {w : World} {b n i : Nat} {p : Nat → Bool} (h : BoolRow w b n p) : w.frozen? ⟨b, i, none⟩ = false := by
  obtain ⟨c, t, h, _⟩ := h
  simp [World.frozen?, h]

theorem BoolRow.same {w : World} {b n : Nat} {p q : Nat → Bool} (h : BoolRow w b n p) (e : ∀ i, i < n → p i = q i) : BoolRow w b n q := by
  obtain ⟨c, t, h, hs, r⟩ := h
  exact ⟨c, t, h, hs, fun i hi => by rw [r i hi, e i hi]⟩

theorem BoolRow.set {w : World} {b n m : Nat} {p : Nat → Bool} (h : BoolRow w b n p) (hm : m < n) : BoolRow (w.setCell ⟨b, m, none⟩ (.bool true)) b n (fun i => p i || ((m : Int) == (i : Int))) := by
  obtain ⟨c, t, h, hs, r⟩ := h
  refine ⟨c.setIfInBounds m (.bool true), t, by simp [World.setCell, Array.getElem?_modify, h], by simp [hs], fun i hi => ?_⟩
  by_cases e : i = m
  · subst e
    simp [hs, hi]
  · rw [Array.getElem?_setIfInBounds_ne (fun h => e h.symm), r i hi]
    have : ((m : Int) == (i : Int)) = false := by simp; omega
    simp only [this, Bool.or_false]

/-- make([]bool, m) -/
theorem wpList_make_bools {ops : Array Oper} {rest : List Oper} {o : Oper} {a : Act} {w : World} {Q : Exit → Act → World → Prop} (hgd : o.guard = none) (l c : Operand) (hop : o.op = Op.makeSlice 120 l c)
    {m : Nat} (hl : a.eval l = .int .i64 (m : Int)) (hc : a.eval c = .int .i64 (m : Int)) (hm : m ≤ 100000)
    (h : ∀ w', BoolRow w' w.heap.size m (fun _ => false) → Below w.heap.size w w' → w'.heap.size = w.heap.size + 1 → wpList Try.prog ops Q rest (a.put o.dst (.slice (some ⟨w.heap.size, 0, none⟩) m m)) w') : wpList Try.prog ops Q (o :: rest) a w := by
  obtain ⟨i0, hi, hz0, hz1, hz2⟩ := info_parts bool_info
  refine wpList_plain hgd fun K hK => ?_
  have hr := run_make (P := Try.prog) w 120 4 i0 (.bool false) Try.underlying120 hi hz0 .i64 .i64 m m (by omega) (by omega) (by rw [hz2]; omega) (by omega)
  simp only [Int.toNat_natCast, hz1, Nat.mul_one] at hr
  unfold Oper.wp
  simp only [execOp, hop, hl, hc]
  simp [hr, Result.andThen]
  refine hK _ _ (h _ ⟨_, _, heap_alloc_new w _, by simp [madeCells], fun i hi => ?_⟩ (box_below' w _) (by simp))
  simp [madeCells, hi, Value.cells, Nat.mod_one]

/-- two slices that do not lie in one block -/
def Asunder (v v' : Value) : Prop := ∀ k, v.ownBlock = some k → v'.ownBlock = some k → False

theorem Asunder.ne {v v' : Value} (h : Asunder v v') : v'.ownBlock = none ∨ v'.ownBlock ≠ v.ownBlock := by
  cases hv : v'.ownBlock with
  | none => exact Or.inl rfl
  | some k => exact Or.inr fun e => h k e.symm hv

theorem Asunder.symm {v v' : Value} (h : Asunder v v') : Asunder v' v := fun k a b => h k b a

theorem Asunder.next {v v' u : Value} {n : Nat} (h : Asunder v u) (hat : v'.ownBlock = v.ownBlock ∨ v'.ownBlock = some n) (hu : ∀ k, u.ownBlock = some k → k < n) : Asunder v' u := by
  intro k a b
  rcases hat with e | e
  · exact h k (by rw [← e]; exact a) b
  · rw [e] at a
    injection a with a
    have := hu k b
    omega

/-- what holds at the head of the loop of web.sides -/
def SidesRel (w : World) (cs : Array Value) (f : Flow) (k : Nat) (p : Nat → Bool) (v1 v2 : Value) (wr : World) : Prop :=
  OwnInts (w.heap.size + 2) wr v1 (lastL f k) ∧ OwnInts (w.heap.size + 2) wr v2 (firstL f k) ∧ Asunder v1 v2 ∧ BoolRow wr (w.heap.size + 1) f.lots.length p ∧ Box wr w.heap.size cs ∧ Below w.heap.size w wr

theorem SidesRel.ext {w : World} {cs : Array Value} {f : Flow} {k : Nat} {p : Nat → Bool} {v1 v2 : Value} {wr w' : World} (h : SidesRel w cs f k p v1 v2 wr) (hb : Below wr.heap.size wr w') : SidesRel w cs f k p v1 v2 w' :=
  ⟨h.1.below hb, h.2.1.below hb, h.2.2.1, h.2.2.2.1.ext hb, h.2.2.2.2.1.ext hb, h.2.2.2.2.2.trans (hb.mono h.2.2.2.2.2.size)⟩

/-- an append to the first list -/
theorem SidesRel.last {w : World} {cs : Array Value} {f : Flow} {p : Nat → Bool} {v1 v2 v' : Value} {wr w' : World} {o : Obj} {l1 l2 : List Int}
    (h1 : OwnInts (w.heap.size + 2) wr v1 l1) (h2 : OwnInts (w.heap.size + 2) wr v2 l2) (h3 : Asunder v1 v2) (h4 : BoolRow wr (w.heap.size + 1) f.lots.length p) (h5 : Box wr w.heap.size cs) (h6 : Below w.heap.size w wr)
    (hz : w.heap.size + 1 < wr.heap.size) (hg : (wr.alloc o).grownBy w' v1.ownBlock) (hat : v'.ownBlock = v1.ownBlock ∨ v'.ownBlock = some (wr.alloc o).heap.size) :
    OwnInts (w.heap.size + 2) w' v2 l2 ∧ Asunder v' v2 ∧ BoolRow w' (w.heap.size + 1) f.lots.length p ∧ Box w' w.heap.size cs ∧ Below w.heap.size w w' := by
  have hr : ∀ j, v1.ownBlock = some j → w.heap.size + 2 ≤ j := fun j hj => (h1.1.lt j hj).1
  refine ⟨(h2.alloc o).kept hg h3.ne, h3.next hat (fun j hj => by have := (h2.1.lt j hj).2; simp; omega), (h4.alloc o).grown hg (fun e => by have := hr _ e.symm; omega), (h5.alloc o).grown hg (fun e => by have := hr _ e.symm; omega), ?_⟩
  exact (h6.alloc (by omega) o).grown hg (by simp; omega) (fun j hj => by have := hr j hj; omega)

set_option maxHeartbeats 4000000 in
set_option maxRecDepth 100000 in
/-- web.sides -/
theorem sides_any (B : Nat) (w : World) (vs vl vo vw : Value) (f : Flow) (hw : IsWeb B w vs vl vo vw f) (hB : B ≤ w.heap.size) (h0 : checkE f = 0) :
    Calls Try.prog 77 #[.agg #[vs, vl, vo, vw]] w fun e w' => ∃ v1 v2, e = .returned (.tuple #[v1, v2]) ∧ OwnInts w.heap.size w' v1 (lastL f f.lots.length) ∧ OwnInts w.heap.size w' v2 (firstL f f.lots.length) ∧ Below w.heap.size w w' := by
  have HWB := Lib.hid hw
  have H0 := Lib.hid h0
  have hck := checkE_ok h0
  have HV := Lib.hid hck.2.2.2.2
  have HBF := Lib.hid (fun k (hk : k ≤ f.lots.length) => before_bd h0 hk)
  obtain ⟨hk1, hk2, hk3, hk4, _⟩ := hck
  obtain ⟨⟨rfl, ⟨hs1, hs2⟩, b, off, cap, ⟨a, rfl, hcap, hmax, ha⟩, hlen, hc⟩, ⟨b', off', cap', ⟨a', rfl, hcap', hmax', ha'⟩, hlen', hz', hc'⟩, bm, rfl, hbm, hmap⟩ := hw
  have HC := Lib.hid hc
  have HC' := Lib.hid hc'
  have HA := Lib.hid ha
  have HA' := Lib.hid ha'
  have HOLN := Lib.hid (outsTo_len f f.lots.length)
  have HU := Lib.hid (fun x => unkTo_lt f x f.lots.length)
  clear hc hc' ha ha' hz' hmap h0 hk4
  obtain ⟨no, hno⟩ : ∃ n, (outsTo f f.lots.length).length = n := ⟨_, rfl⟩
  rw [hno] at HWB HA' HOLN hcap' hlen' HC'
  rw [hno]
  clear hno
  obtain ⟨cs, hcs⟩ : ∃ cs : Array Value, cs = #[.int .i64 f.senders, .slice a f.lots.length cap, .slice a' no cap', .map (some bm)] := ⟨_, rfl⟩
  have HCS := Lib.hid hcs
  have HX0 := Lib.hid (Box.new w #[.int .i64 f.senders, .slice a f.lots.length cap, .slice a' no cap', .map (some bm)] 97)
  have HR0 : Hid (∀ W, BoolRow W (w.heap.size + 1) f.lots.length (fun _ => false) → Below (w.heap.size + 1) (w.alloc (.cells #[.int .i64 f.senders, .slice a f.lots.length cap, .slice a' no cap', .map (some bm)] 97)) W → SidesRel w cs f 0 (fun m => hitTo f m 0) (.slice none 0 0) (.slice none 0 0) W) := Lib.hid fun W h hb => by
    refine ⟨OwnInts.nil _ _, OwnInts.nil _ _, fun k a _ => by simp [Value.ownBlock] at a, h, ?_, (box_below' w _).trans (hb.mono (by omega))⟩
    rw [hcs]
    exact HX0.out.below hb (by omega)
  clear hcs
  go_enter Try.func77, Try.ntmps77
  go_wp2_with (at_make; refine wpList_make_bools (m := f.lots.length) rfl _ _ rfl rfl rfl (by omega) ?_; intro w3 hr3 hb3 hz3; have HR3 := Lib.hid hr3; have HB3 := Lib.hid hb3; have HX3 := Lib.hid (HX0.out.below hb3 (by simp)); obtain ⟨z3, r3⟩ := HX3.out; clear hr3 hb3 hz3)
  have HREL : Hid (SidesRel w cs f 0 (fun m => hitTo f m 0) (.slice none 0 0) (.slice none 0 0) w3) := Lib.hid (HR0.out w3 (by have h := HR3.out; simp only [World.size_alloc] at h; exact h) (HB3.out.mono (by simp)))
  clear z3 r3
  go_loopw [2, 3, 19] (fun v1 v2 vi wr => ∃ k : Nat, k ≤ f.lots.length ∧ vi = .int .i64 k ∧ SidesRel w cs f k (fun m => hitTo f m k) v1 v2 wr) (fun _ _ vi _ => f.lots.length - (intOf vi).toNat)
  case atStart => exact ⟨0, by omega, rfl, HREL.out⟩
  case round =>
    obtain ⟨k, hk, rfl, hrel⟩ := hrel
    have HRR := Lib.hid hrel
    clear hrel HREL
    have hzr := HRR.out.2.2.2.1.lt
    by_cases hlt : k < f.lots.length
    · obtain rfl : a = some ⟨b, off, none⟩ := by rcases HA.out with ha | ha; exact ha; omega
      obtain rfl : a' = some ⟨b', off', none⟩ := by rcases HA'.out with ha | ha; exact ha; have := HOLN.out; omega
      obtain ⟨vi, vk, vp, hc1, hc2, hc3, hl1, rfl, hl3⟩ := HC.out k hlt
      obtain ⟨bp, op, cp, ⟨ap, rfl, _⟩, _⟩ := hl3
      obtain ⟨bi, oi, ci, ⟨ai, rfl, _⟩, _⟩ := hl1
      have HBL := Lib.hid HRR.out.2.2.2.2.2
      have hbb : b < w.heap.size := by have := hc1.1; omega
      have e1 := (HBL.out.cell (p := ⟨b, off + k * 3, none⟩) hbb).trans hc1.2
      have e2 := (HBL.out.cell (p := ⟨b, off + k * 3 + 1, none⟩) hbb).trans hc2.2
      have e3 := (HBL.out.cell (p := ⟨b, off + k * 3 + 2, none⟩) hbb).trans hc3.2
      have hbbr : b < wr.heap.size := by have := HBL.out.size; omega
      have HCO := Lib.hid (HC'.out k (by have := HOLN.out; omega))
      rw [outsTo_at f hlt] at HCO
      have hbf := HBF.out k hk
      have hbf1 := HBF.out (k + 1) (by omega)
      simp only [beforeI] at hbf1
      have HSL : Hid (lastL f (k + 1) = if !(lotAt f.lots k).known && lastB f k then lastL f k ++ [(k : Int)] else lastL f k) := Lib.hid rfl
      have HSF : Hid (firstL f (k + 1) = if !(lotAt f.lots k).known && firstB f k then firstL f k ++ [(k : Int)] else firstL f k) := Lib.hid rfl
      have HSH : Hid (∀ m, hitTo f m (k + 1) = (hitTo f m k || (!(lotAt f.lots k).known && comesTo f m k (lotAt f.lots k).ins.length))) := Lib.hid fun m => rfl
      have HLB : Hid (lastB f k = lastTo f k (lotAt f.lots k).ins.length) := Lib.hid rfl
      have HFB : Hid (firstB f k = !hitTo f k k) := Lib.hid rfl
      have HHA := Lib.hid (hitTo_at HV.out hlt)
      have HLL := Lib.hid (lastL_len f k)
      have HFL := Lib.hid (firstL_len f k)
      have HLS : Hid (∀ i, lastTo f k (i + 1) = (lastTo f k i && decide (unkI f (beforeI f k + i) < 0))) := Lib.hid fun i => rfl
      have HCT : Hid (∀ m i, comesTo f m k (i + 1) = (comesTo f m k i || (unkI f (beforeI f k + i) == (m : Int)))) := Lib.hid fun m i => rfl
      obtain ⟨kn, hkn⟩ : ∃ x, (lotAt f.lots k).known = x := ⟨_, rfl⟩
      obtain ⟨n, hn⟩ : ∃ x, (lotAt f.lots k).ins.length = x := ⟨_, rfl⟩
      obtain ⟨np, hnp⟩ : ∃ x, (lotAt f.lots k).perm.length = x := ⟨_, rfl⟩
      obtain ⟨bv, hbv⟩ : ∃ x, beforeI f k = x := ⟨_, rfl⟩
      rw [hkn] at e2 HSL HSF HSH
      rw [hn] at e1 hbf1 HSH HLB
      rw [hnp] at e3
      rw [hbv] at hbf hbf1 HCO HLS HCT
      clear hc1 hc2 hc3 hkn hn hnp hbv
      cases kn
      · obtain ⟨ho1, ho2, has, hbo, hbx, hbl⟩ := HRR.out
        have HR4 : Hid (SidesRel w cs f k (fun m => hitTo f m k || comesTo f m k 0) u2 u3 (wr.alloc (.cells #[.slice ai n ci, .bool false, .slice ap np cp] 39))) := Lib.hid (by
          have h := HRR.out.ext (box_below' wr (.cells #[.slice ai n ci, .bool false, .slice ap np cp] 39))
          exact ⟨h.1, h.2.1, h.2.2.1, h.2.2.2.1.same (fun i _ => by simp [comesTo]), h.2.2.2.2⟩)
        clear ho1 ho2 has hbo hbx hbl
        go_wp2
        clear e1 e2 e3
        go_loopw [7, 29] (fun ve vi wr => ∃ i : Nat, i ≤ n ∧ vi = .int .i64 i ∧ ve = .bool (lastTo f k i) ∧ SidesRel w cs f k (fun m => hitTo f m k || comesTo f m k i) u2 u3 wr) (fun _ vi _ => n - (intOf vi).toNat)
        case atStart => exact ⟨0, by omega, rfl, rfl, HR4.out⟩
        case round =>
          obtain ⟨i, hi, rfl, rfl, hrel⟩ := hrel
          have HRI := Lib.hid hrel
          clear hrel HR4 HRR
          by_cases hin : i < n
          · obtain ⟨ho1, ho2, has, hbo, hbx, hbl⟩ := HRI.out
            have HBI := Lib.hid hbl
            have HBO := Lib.hid hbo
            rw [HCS.out] at hbx
            obtain ⟨zr, rr⟩ := hbx
            have b0 := rr 0
            have b1 := rr 1
            have b2 := rr 2
            have b3 := rr 3
            simp at b0 b1 b2 b3
            have oc := (hbl.cell (p := ⟨b', off' + k, none⟩) (by have := HCO.out.1; show b' < _; omega)).trans HCO.out.2
            have hob : b' < wr.heap.size := by have := HCO.out.1; have := hbl.size; omega
            have hk0 : (0 : Int) ≤ (k : Int) := Int.natCast_nonneg _
            have hk1' : (k : Int) < (no : Int) := by have := HOLN.out; omega
            have hwr : IntKind.i64.wrap (bv + (i : Int)) = bv + (i : Int) := by rw [IntWalk.i64_in _ (by omega)]
            have HUX := Lib.hid (HU.out (bv + (i : Int)))
            have HCU : Hid (Calls Try.prog 103 #[.agg #[.int .i64 f.senders, .slice (some ⟨b, off, none⟩) f.lots.length cap, .slice (some ⟨b', off', none⟩) no cap', .map (some bm)], .int .i64 (bv + (i : Int))] wr.drew fun e w' => e = .returned (.int .i64 (unkI f (bv + (i : Int)))) ∧ Below wr.heap.size wr w') := Lib.hid (by
              refine (wunknown_any B wr.drew _ _ _ _ f (bv + (i : Int)) (HWB.out.below ((Below.drew hbl)) hB) (by have := hbl.size; simp; omega) H0.out).mono ?_
              rintro e w' ⟨rfl, hb⟩
              exact ⟨rfl, ((Below.refl _ wr).drew).trans (hb.mono (by simp))⟩)
            obtain ⟨u, hu⟩ : ∃ x, unkI f (bv + (i : Int)) = x := ⟨_, rfl⟩
            have HLI := Lib.hid (HLS.out i)
            have HCI := Lib.hid (fun m => HCT.out m i)
            unfold unkI at hu
            rw [hu] at HUX
            have hu' : unkI f (bv + (i : Int)) = u := hu
            rw [hu'] at HCU HLI HCI
            clear ho1 ho2 has hbo hbl rr hu hu'
            go_wp2
            go_still_tail 8, (by kernel_rfl)
            change wpList _ _ _ _ _ wr.drew
            by_cases hup : 0 ≤ u
            · obtain ⟨m0, rfl⟩ := Int.eq_ofNat_of_zero_le hup
              have hm0 : m0 < f.lots.length := by have := HUX.out.2; omega
              have HL0 : Hid (lastTo f k (i + 1) = false) := Lib.hid (by rw [HLI.out, decide_eq_false (by omega)]; simp)
              go_wp2_with (go_at_call 103; refine HCU.out.mono ?_; rintro e w5 ⟨rfl, hb5⟩; have HB5 := Lib.hid hb5; have HO5 := Lib.hid (HBO.out.ext hb5); have q1 := HO5.out.cell hm0; have q2 := HO5.out.free (i := m0); clear hb5)
              go_roundw
              case rel =>
                have h := HRI.out.ext HB5.out
                have hg := grown_setCell w5 ⟨w.heap.size + 1, m0, none⟩ (.bool true)
                refine ⟨i + 1, by omega, by go_num, by rw [HL0.out], h.1.kept hg (Or.inr fun e => by have := (h.1.1.lt (w.heap.size + 1) e).1; omega), h.2.1.kept hg (Or.inr fun e => by have := (h.2.1.1.lt (w.heap.size + 1) e).1; omega), h.2.2.1, ?_, h.2.2.2.2.1.grown hg (by simp), h.2.2.2.2.2.setCell (by show w.heap.size ≤ w.heap.size + 1; omega) _⟩
                exact (HO5.out.set hm0).same (fun m _ => by simp only [HCI.out m, Bool.or_assoc])
              case measure => simp [intOf]; omega
            · have hneg : decide (0 ≤ u) = false := decide_eq_false hup
              have HL0 : Hid (lastTo f k (i + 1) = lastTo f k i) := Lib.hid (by rw [HLI.out, decide_eq_true (by omega : u < 0)]; simp)
              go_wp2_with (go_at_call 103; refine HCU.out.mono ?_; rintro e w5 ⟨rfl, hb5⟩; have HB5 := Lib.hid hb5; clear hb5)
              go_roundw
              case rel =>
                have h := HRI.out.ext HB5.out
                exact ⟨i + 1, by omega, by go_num, by rw [HL0.out], h.1, h.2.1, h.2.2.1, h.2.2.2.1.same (fun m _ => by
                  have : (u == (m : Int)) = false := by simp; omega
                  simp only [HCI.out m, this, Bool.or_false]), h.2.2.2.2⟩
              case measure => simp [intOf]; omega
          · obtain rfl : i = n := by omega
            rw [← HLB.out]
            have HR5 : Hid (SidesRel w cs f k (fun m => hitTo f m (k + 1)) u2 u3 wr) := Lib.hid ⟨HRI.out.1, HRI.out.2.1, HRI.out.2.2.1, HRI.out.2.2.2.1.same (fun m _ => by simp only [HSH.out m]; simp), HRI.out.2.2.2.2⟩
            clear HRI
            have hr0 := HR5.out.2.2.2.1.cell hlt
            simp only [HHA.out] at hr0
            have hzr5 := HR5.out.2.2.2.1.lt
            obtain ⟨hv2, hv3⟩ : (∃ a n c, u2 = .slice a n c) ∧ (∃ a n c, u3 = .slice a n c) := ⟨HR5.out.1.form', HR5.out.2.1.form'⟩
            obtain ⟨hb, hhb⟩ : ∃ x, hitTo f k k = x := ⟨_, rfl⟩
            rw [hhb] at hr0 HFB
            obtain ⟨lb, hlb⟩ : ∃ x, lastB f k = x := ⟨_, rfl⟩
            rw [hlb] at HSL ⊢
            rw [HFB.out] at HSF
            have HHB := Lib.hid hhb
            clear hhb hlb
            cases lb
            · cases hb
              · go_wp2_with (at_builtin; refine append_intsA rfl (.tmp 57) (.tmp 59) rfl (B := w.heap.size + 2) (v := u3) (vx := .slice (some ⟨wr.heap.size, 0, none⟩) 1 1) [(k : Int)] rfl (HR5.out.2.1.alloc _) rfl (src_one (World.cell?_alloc_at _ _ _ _ rfl) rfl) (by unfold I64; simp; omega) (by have := HLL.out; have := HFL.out; simp; omega) (by simp; omega) ?_; intro v7 w7 ho7 hg7 hat7; have HO7 := Lib.hid ho7; have HG7 := Lib.hid hg7; have HAT7 := Lib.hid hat7; have HX7 := Lib.hid (SidesRel.last HR5.out.2.1 HR5.out.1 HR5.out.2.2.1.symm HR5.out.2.2.2.1 HR5.out.2.2.2.2.1 HR5.out.2.2.2.2.2 hzr5 hg7 hat7); clear ho7 hg7 hat7)
                go_roundw
                case rel => exact ⟨k + 1, by omega, by go_num, by rw [HSL.out]; exact HX7.out.1, by rw [HSF.out]; exact HO7.out, HX7.out.2.1.symm, HX7.out.2.2.1, HX7.out.2.2.2.1, HX7.out.2.2.2.2⟩
                case measure => simp [intOf]; omega
              · go_wp2
                go_roundw
                case rel => exact ⟨k + 1, by omega, by go_num, by rw [HSL.out]; exact HR5.out.1, by rw [HSF.out]; exact HR5.out.2.1, HR5.out.2.2⟩
                case measure => simp [intOf]; omega
            · cases hb
              · go_wp2_with (first
                  | (at_builtin; refine append_intsA rfl (.tmp 48) (.tmp 50) rfl (B := w.heap.size + 2) (v := u2) (vx := .slice (some ⟨wr.heap.size, 0, none⟩) 1 1) [(k : Int)] rfl (HR5.out.1.alloc _) rfl (src_one (World.cell?_alloc_at _ _ _ _ rfl) rfl) (by unfold I64; simp; omega) (by have := HLL.out; have := HFL.out; simp; omega) (by simp; omega) ?_; intro v6 w6 ho6 hg6 hat6; have HO6 := Lib.hid ho6; have HG6 := Lib.hid hg6; have HAT6 := Lib.hid hat6; have HX6 := Lib.hid (SidesRel.last HR5.out.1 HR5.out.2.1 HR5.out.2.2.1 HR5.out.2.2.2.1 HR5.out.2.2.2.2.1 HR5.out.2.2.2.2.2 hzr5 hg6 hat6); have hr6 := HX6.out.2.2.1.cell hlt; rw [HHA.out, HHB.out] at hr6; have hz6 : w.heap.size + 1 < w6.heap.size := HX6.out.2.2.1.lt; clear ho6 hg6 hat6)
                  | (at_builtin; refine append_intsA rfl (.tmp 57) (.tmp 59) rfl (B := w.heap.size + 2) (v := u3) (vx := .slice (some ⟨w6.heap.size, 0, none⟩) 1 1) [(k : Int)] rfl (HX6.out.1.alloc _) rfl (src_one (World.cell?_alloc_at _ _ _ _ rfl) rfl) (by unfold I64; simp; omega) (by have := HLL.out; have := HFL.out; simp; omega) (by simp; omega) ?_; intro v8 w8 ho8 hg8 hat8; have HO8 := Lib.hid ho8; have HG8 := Lib.hid hg8; have HAT8 := Lib.hid hat8; have HX8 := Lib.hid (SidesRel.last HX6.out.1 HO6.out HX6.out.2.1.symm HX6.out.2.2.1 HX6.out.2.2.2.1 HX6.out.2.2.2.2 hz6 hg8 hat8); clear ho8 hg8 hat8))
                go_roundw
                case rel => exact ⟨k + 1, by omega, by go_num, by rw [HSL.out]; exact HX8.out.1, by rw [HSF.out]; exact HO8.out, HX8.out.2.1.symm, HX8.out.2.2.1, HX8.out.2.2.2.1, HX8.out.2.2.2.2⟩
                case measure => simp [intOf]; omega
              · go_wp2_with (at_builtin; refine append_intsA rfl (.tmp 48) (.tmp 50) rfl (B := w.heap.size + 2) (v := u2) (vx := .slice (some ⟨wr.heap.size, 0, none⟩) 1 1) [(k : Int)] rfl (HR5.out.1.alloc _) rfl (src_one (World.cell?_alloc_at _ _ _ _ rfl) rfl) (by unfold I64; simp; omega) (by have := HLL.out; have := HFL.out; simp; omega) (by simp; omega) ?_; intro v6 w6 ho6 hg6 hat6; have HO6 := Lib.hid ho6; have HG6 := Lib.hid hg6; have HAT6 := Lib.hid hat6; have HX6 := Lib.hid (SidesRel.last HR5.out.1 HR5.out.2.1 HR5.out.2.2.1 HR5.out.2.2.2.1 HR5.out.2.2.2.2.1 HR5.out.2.2.2.2.2 hzr5 hg6 hat6); have hr6 := HX6.out.2.2.1.cell hlt; rw [HHA.out, HHB.out] at hr6; have hz6 : w.heap.size + 1 < w6.heap.size := HX6.out.2.2.1.lt; clear ho6 hg6 hat6)
                go_roundw
                case rel => exact ⟨k + 1, by omega, by go_num, by rw [HSL.out]; exact HO6.out, by rw [HSF.out]; exact HX6.out.1, HX6.out.2.1, HX6.out.2.2.1, HX6.out.2.2.2.1, HX6.out.2.2.2.2⟩
                case measure => simp [intOf]; omega
      · have HR5 : Hid (SidesRel w cs f (k + 1) (fun m => hitTo f m (k + 1)) u2 u3 (wr.alloc (.cells #[.slice ai n ci, .bool true, .slice ap np cp] 39))) := Lib.hid (by
          have h := HRR.out.ext (box_below' wr (.cells #[.slice ai n ci, .bool true, .slice ap np cp] 39))
          exact ⟨by rw [HSL.out]; exact h.1, by rw [HSF.out]; exact h.2.1, h.2.2.1, h.2.2.2.1.same (fun m _ => by simp only [HSH.out m]; simp), h.2.2.2.2⟩)
        go_wp2
        go_roundw
        case rel => exact ⟨k + 1, by omega, by go_num, HR5.out⟩
        case measure => simp [intOf]; omega
    · obtain rfl : k = f.lots.length := by omega
      go_wp2
      go_ret2
      exact ⟨_, _, rfl, HRR.out.1.mono (by omega), HRR.out.2.1.mono (by omega), HRR.out.2.2.2.2.2⟩

end Go.Proofs.Ythekefnocphcdaa

set_option linter.unusedVariables false

set_option linter.unusedSimpArgs false

namespace Go.Proofs.Ythekefnocphcdaa

open Go.RowKit

set_option maxHeartbeats 2000000 in
set_option maxRecDepth 100000 in
/-- bounds.product -/
theorem bproduct_any (B : Nat) (w : World) (vs vl vx : Value) (f : Flow) (l : List Int) (hf : IsFlow B w vs vl f) (hx : IsInts B w vx l) (hB : B ≤ w.heap.size) (h0 : checkE f = 0) (hin : ∀ x ∈ l, 0 ≤ x ∧ x < f.lots.length) :
    Calls Try.prog 78 #[.agg #[vs, vl], vx] w fun e w' => e = .returned (.tuple #[.int .i64 (prodR f l), .bool (prodB f l)]) ∧ Below w.heap.size w w' := by
  have HF := Lib.hid hf
  have hck := checkE_ok h0
  have HV := Lib.hid hck.2.2.2.2
  have H0 := Lib.hid h0
  clear hck h0
  obtain ⟨rfl, ⟨hs1, hs2⟩, hl⟩ := hf
  obtain ⟨b, off, cap, ⟨a, rfl, hcap, hmax, ha⟩, hlen, hc⟩ := hl
  obtain ⟨b1, off1, cap1, ⟨a1, rfl, hcap1, hmax1, ha1⟩, hlen1, hz1, hc1⟩ := hx
  have HC := Lib.hid hc
  have HC1 := Lib.hid hc1
  have HA := Lib.hid ha
  have HA1 := Lib.hid ha1
  have HIN := Lib.hid hin
  clear hc ha hc1 ha1 hz1 hin
  have HX0 := Lib.hid (Box.new w #[.int .i64 f.senders, .slice a f.lots.length cap] 24)
  go_enter Try.func78, Try.ntmps78
  go_wp2
  go_step3
  go_wp2
  go_step3
  go_wp2
  go_loopw [4, 11] (fun vn vi wr => ∃ (k : Nat) (v : Int), k ≤ l.length ∧ vi = .int .i64 k ∧ vn = .int .i64 v ∧ prodTo f l k = some v ∧ Box wr w.heap.size #[.int .i64 f.senders, .slice a f.lots.length cap] ∧ Below w.heap.size w wr) (fun _ vi _ => l.length - (intOf vi).toNat)
  case atStart => exact ⟨0, 1, by omega, rfl, rfl, rfl, HX0.out, box_below' _ _⟩
  case round =>
    obtain ⟨k, v, hk, rfl, rfl, hp, hbx, hbr⟩ := hrel
    have HP := Lib.hid hp
    have HX := Lib.hid hbx
    have HBR := Lib.hid hbr
    clear hp hbr
    obtain ⟨z1, r1⟩ := hbx
    have r10 := r1 0
    have r11 := r1 1
    simp at r10 r11
    clear r1
    have hv := prodTo_bd k v HP.out
    by_cases hlt : k < l.length
    · obtain rfl : a1 = some ⟨b1, off1, none⟩ := by rcases HA1.out with ha | ha; exact ha; omega
      have hin := HIN.out _ (nth_mem hlt)
      obtain ⟨j, hj⟩ := Int.eq_ofNat_of_zero_le hin.1
      have hjl : j < f.lots.length := by omega
      obtain rfl : a = some ⟨b, off, none⟩ := by rcases HA.out with ha | ha; exact ha; omega
      obtain ⟨vi, vk, vp, hc1, hc2, hc3, hl1, rfl, hl3⟩ := HC.out j hjl
      obtain ⟨bi, oi, ci, ⟨ai, rfl, _⟩, _⟩ := hl1
      have hbb : b < w.heap.size := by have := hc1.1; omega
      have hbb1 : b1 < w.heap.size := by have := (HC1.out k hlt).1; omega
      have HS : Hid (prodTo f l (k + 1) = facTo v (lotAt f.lots j).ins.length) := Lib.hid (by simp only [prodTo, HP.out, hj]; rfl)
      have hbf := before_bd H0.out (show j + 1 ≤ f.lots.length by omega)
      have hbf0 := before_bd H0.out (show j ≤ f.lots.length by omega)
      simp only [beforeI] at hbf
      have c1 := (HBR.out.cell (p := ⟨b, off + j * 3, none⟩) hbb).trans hc1.2
      have c2 := (HBR.out.cell (p := ⟨b1, off1 + k, none⟩) hbb1).trans (HC1.out k hlt).2
      rw [hj] at c2
      obtain ⟨n, hn⟩ : ∃ n, (lotAt f.lots j).ins.length = n := ⟨_, rfl⟩
      rw [hn] at HS hbf c1
      have hn5 : n ≤ 50000 := by omega
      clear hc1 hc2 hc3 hl3 hn hj hin hbf hbf0
      go_wp2
      clear c1 c2
      go_loopw [4, 22] (fun vn vi wr => ∃ (i : Nat) (u : Int), i ≤ n ∧ vi = .int .i64 i ∧ vn = .int .i64 u ∧ facTo v i = some u ∧ Box wr w.heap.size #[.int .i64 f.senders, .slice (some ⟨b, off, none⟩) f.lots.length cap] ∧ Below w.heap.size w wr) (fun _ vi _ => n - (intOf vi).toNat)
      case atStart => exact ⟨0, v, by omega, rfl, rfl, rfl, HX.out, HBR.out⟩
      case round =>
        obtain ⟨i, u, hi2, rfl, rfl, hfa, hbx, hbr⟩ := hrel
        have HFA := Lib.hid hfa
        have HX := Lib.hid hbx
        have HBR := Lib.hid hbr
        clear hfa hbr hbx
        have hu := facTo_bd hv.1 hv.2 i u HFA.out
        have HST := Lib.hid (facTo_step HFA.out)
        by_cases hlt2 : i < n
        · have hp1 : (0 : Int) < (i : Int) + 1 := by omega
          by_cases hov : mostI / ((i : Int) + 1) < u
          · have g2 : decide (1152921504606846976 / ((i : Int) + 1) < u) = true := decide_eq_true hov
            have HN : Hid (prodTo f l l.length = none) := Lib.hid (prodTo_none (k := k + 1) (by rw [HS.out]; exact facTo_none (i := i + 1) (by rw [HST.out, if_pos hov]) (by omega)) (by omega))
            have HR1 : Hid (prodR f l = 0) := Lib.hid (by unfold prodR; rw [HN.out]; rfl)
            have HR2 : Hid (prodB f l = false) := Lib.hid (by unfold prodB; rw [HN.out]; rfl)
            clear hov
            go_wp2
            try rw [Exit.noGoto_ret]
            go_ret2
            exact ⟨by rw [HR1.out, HR2.out]; rfl, HBR.out⟩
          · have g2 : decide (1152921504606846976 / ((i : Int) + 1) < u) = false := decide_eq_false hov
            have hm := mul_bd hu.1 hov
            have HN : Hid (facTo v (i + 1) = some (u * ((i : Int) + 1))) := Lib.hid (by rw [HST.out, if_neg hov])
            obtain ⟨p, hp⟩ : ∃ p, u * ((i : Int) + 1) = p := ⟨_, rfl⟩
            have hw1 : IntKind.i64.wrap (u * ((i : Int) + 1)) = p := by rw [hp, IntWalk.i64_in _ (by omega)]
            have HPP := Lib.hid hp
            rw [hp] at HN hm
            clear hov hp
            go_wp2
            go_roundw
            case rel => exact ⟨i + 1, p, by omega, by go_num, by first | rfl | (rw [HPP.out]) | (rw [hw1]), HN.out, HX.out, HBR.out⟩
            case measure => simp [intOf]; omega
        · obtain rfl : i = n := by omega
          have HN : Hid (prodTo f l (k + 1) = some u) := Lib.hid (by rw [HS.out]; exact HFA.out)
          go_wp2
          go_roundw
          case rel => exact ⟨k + 1, u, by omega, by go_num, rfl, HN.out, HX.out, HBR.out⟩
          case measure => simp [intOf]; omega
    · obtain rfl : k = l.length := by omega
      have HR1 : Hid (prodR f l = v) := Lib.hid (by unfold prodR; rw [HP.out]; rfl)
      have HR2 : Hid (prodB f l = true) := Lib.hid (by unfold prodB; rw [HP.out]; rfl)
      have g1 : decide (0 < v) = true := decide_eq_true (by omega)
      go_wp2
      try rw [Exit.noGoto_ret]
      go_ret2
      exact ⟨by rw [HR1.out, HR2.out]; rfl, HBR.out⟩

set_option maxHeartbeats 2000000 in
set_option maxRecDepth 100000 in
/-- bounds.Lower -/
theorem blower_any (B : Nat) (w : World) (vs vl : Value) (f : Flow) (hf : IsFlow B w vs vl f) (hB : B ≤ w.heap.size) :
    Calls Try.prog 39 #[.agg #[vs, vl]] w fun e w' => ∃ v, e = .returned (.tuple #[.int .i64 (lowerR f), v, .int .i64 (lowerE f)]) ∧ OwnInts w.heap.size w' v (lowerL f) ∧ Below w.heap.size w w' := by
  have HF := Lib.hid hf
  obtain ⟨rfl, ⟨hs1, hs2⟩, hl⟩ := hf
  obtain ⟨b, off, cap, ⟨a, rfl, hcap, hmax, ha⟩, hlen, hc⟩ := hl
  clear hc ha
  have HC := Lib.hid (fun o => fcheck_any B (w.alloc o) _ _ f (HF.out.below (box_below hB o) (Nat.le_refl _)) (by simp; omega))
  have HER : Hid (lowerE f = if checkE f ≠ 0 then checkE f else if lowerOk f then 0 else 2) := Lib.hid rfl
  have HOK : Hid (lowerOk f = (prodB f (lastL f f.lots.length) && prodB f (firstL f f.lots.length))) := Lib.hid rfl
  have HRR : Hid (lowerR f = if lowerE f = 0 then (if prodR f (firstL f f.lots.length) ≤ prodR f (lastL f f.lots.length) then prodR f (lastL f f.lots.length) else prodR f (firstL f f.lots.length)) else 0) := Lib.hid rfl
  have HLR : Hid (lowerL f = if lowerE f = 0 then (if prodR f (firstL f f.lots.length) ≤ prodR f (lastL f f.lots.length) then lastL f f.lots.length else firstL f f.lots.length) else []) := Lib.hid rfl
  obtain ⟨ue, hue⟩ : ∃ x, lowerE f = x := ⟨_, rfl⟩
  obtain ⟨ur, hur⟩ : ∃ x, lowerR f = x := ⟨_, rfl⟩
  obtain ⟨ul, hul⟩ : ∃ x, lowerL f = x := ⟨_, rfl⟩
  rw [hue] at HER HRR HLR
  rw [hur] at HRR
  rw [hul] at HLR
  rw [hue, hur, hul]
  clear hue hur hul
  go_enter Try.func39, Try.ntmps39
  go_wp2_with fail
  refine (HC.out _).mono ?_
  rintro e w5 ⟨rfl, hb5⟩
  have HX5 := Lib.hid ((Box.new w #[.int .i64 f.senders, .slice a f.lots.length cap] 24).ext hb5)
  have HW5 : Hid (Below w.heap.size w w5) := Lib.hid ((box_below (Nat.le_refl _) _).trans (hb5.mono (by simp)))
  clear hb5
  obtain ⟨z5, r5⟩ := HX5.out
  by_cases h1 : checkE f = 0
  · have h1' : (checkE f != 0) = false := by simpa using h1
    have H1 := Lib.hid h1
    have HE1 : Hid (ue = if lowerOk f then 0 else 2) := Lib.hid (by rw [HER.out, if_neg (by simp [h1])])
    clear h1
    go_wp2_with fail
    refine (weave_any B w5 _ _ f (HF.out.below HW5.out hB) (by have := HW5.out.size; omega) H1.out).mono ?_
    rintro e w6 ⟨vo6, vw6, rfl, hwb, hb6⟩
    have HX6 := Lib.hid (HX5.out.ext hb6)
    have HW6 : Hid (Below w.heap.size w w6) := Lib.hid (HW5.out.trans (hb6.mono HW5.out.size))
    have HWB6 := Lib.hid hwb
    clear hb6 hwb z5 r5
    obtain ⟨z6, r6⟩ := HX6.out
    go_wp2_with fail
    refine (sides_any w6.heap.size w6 _ _ _ _ f HWB6.out (Nat.le_refl _) H1.out).mono ?_
    rintro e w7 ⟨vl6, vf7, rfl, hol, hof, hb7⟩
    have HX7 := Lib.hid (HX6.out.ext hb7)
    have HW7 : Hid (Below w.heap.size w w7) := Lib.hid (HW6.out.trans (hb7.mono HW6.out.size))
    have HOL7 := Lib.hid (hol.mono HW6.out.size)
    have HOF7 := Lib.hid (hof.mono HW6.out.size)
    clear hb7 hof hol z6 r6
    obtain ⟨z7, r7⟩ := HX7.out
    go_wp2_with fail
    refine (bproduct_any w7.heap.size w7 _ _ _ f (lastL f f.lots.length) ((HF.out.below HW7.out hB).mono (by have := HW7.out.size; omega)) HOL7.out.isInts (Nat.le_refl _) H1.out (lastL_mem f _)).mono ?_
    rintro e w8 ⟨rfl, hb8⟩
    have HX8 := Lib.hid (HX7.out.ext hb8)
    have HW8 : Hid (Below w.heap.size w w8) := Lib.hid (HW7.out.trans (hb8.mono HW7.out.size))
    have HOL8 := Lib.hid (HOL7.out.below hb8)
    have HOF8 := Lib.hid (HOF7.out.below hb8)
    clear hb8 z7 r7
    obtain ⟨z8, r8⟩ := HX8.out
    go_wp2_with fail
    refine (bproduct_any w8.heap.size w8 _ _ _ f (firstL f f.lots.length) ((HF.out.below HW8.out hB).mono (by have := HW8.out.size; omega)) HOF8.out.isInts (Nat.le_refl _) H1.out (firstL_mem f _)).mono ?_
    rintro e w9 ⟨rfl, hb9⟩
    have HW9 : Hid (Below w.heap.size w w9) := Lib.hid (HW8.out.trans (hb9.mono HW8.out.size))
    have HOL9 := Lib.hid (HOL8.out.below hb9)
    have HOF9 := Lib.hid (HOF8.out.below hb9)
    clear hb9 z8 r8
    obtain ⟨pl, hpl⟩ : ∃ x, prodR f (lastL f f.lots.length) = x := ⟨_, rfl⟩
    obtain ⟨pf, hpf⟩ : ∃ x, prodR f (firstL f f.lots.length) = x := ⟨_, rfl⟩
    obtain ⟨bl, hbl⟩ : ∃ x, prodB f (lastL f f.lots.length) = x := ⟨_, rfl⟩
    obtain ⟨bf, hbf⟩ : ∃ x, prodB f (firstL f f.lots.length) = x := ⟨_, rfl⟩
    rw [hpl, hpf] at HRR HLR
    rw [hbl, hbf] at HOK
    rw [hpl, hpf, hbl, hbf]
    clear hpl hpf hbl hbf
    cases bl
    · have HE : Hid (ue = 2) := Lib.hid (by rw [HE1.out, HOK.out]; rfl)
      have HR : Hid (ur = 0) := Lib.hid (by rw [HRR.out, HE.out]; rfl)
      have HL : Hid (ul = []) := Lib.hid (by rw [HLR.out, HE.out]; rfl)
      go_wp2
      go_ret3
      exact ⟨_, by rw [HE.out, HR.out]; rfl, by rw [HL.out]; exact OwnInts.nil _ _, HW9.out⟩
    · cases bf
      · have HE : Hid (ue = 2) := Lib.hid (by rw [HE1.out, HOK.out]; rfl)
        have HR : Hid (ur = 0) := Lib.hid (by rw [HRR.out, HE.out]; rfl)
        have HL : Hid (ul = []) := Lib.hid (by rw [HLR.out, HE.out]; rfl)
        go_wp2
        go_ret3
        exact ⟨_, by rw [HE.out, HR.out]; rfl, by rw [HL.out]; exact OwnInts.nil _ _, HW9.out⟩
      · have HE : Hid (ue = 0) := Lib.hid (by rw [HE1.out, HOK.out]; rfl)
        by_cases hle : pf ≤ pl
        · have hle' : decide (pf ≤ pl) = true := decide_eq_true hle
          have HR : Hid (ur = pl) := Lib.hid (by rw [HRR.out, HE.out, if_pos rfl, if_pos hle])
          have HL : Hid (ul = lastL f f.lots.length) := Lib.hid (by rw [HLR.out, HE.out, if_pos rfl, if_pos hle])
          go_wp2
          go_ret3
          exact ⟨_, by rw [HE.out, HR.out]; rfl, by rw [HL.out]; exact HOL9.out, HW9.out⟩
        · have hle' : decide (pf ≤ pl) = false := decide_eq_false hle
          have HR : Hid (ur = pf) := Lib.hid (by rw [HRR.out, HE.out, if_pos rfl, if_neg hle])
          have HL : Hid (ul = firstL f f.lots.length) := Lib.hid (by rw [HLR.out, HE.out, if_pos rfl, if_neg hle])
          go_wp2
          go_ret3
          exact ⟨_, by rw [HE.out, HR.out]; rfl, by rw [HL.out]; exact HOF9.out, HW9.out⟩
  · have HE : Hid (ue = checkE f) := Lib.hid (by rw [HER.out, if_pos h1])
    have HR : Hid (ur = 0) := Lib.hid (by rw [HRR.out, HE.out, if_neg h1])
    have HL : Hid (ul = []) := Lib.hid (by rw [HLR.out, HE.out, if_neg h1])
    have h1' : (checkE f != 0) = true := by simpa using h1
    clear h1
    go_wp2
    go_ret3
    exact ⟨_, by rw [HE.out, HR.out]; rfl, by rw [HL.out]; exact OwnInts.nil _ _, HW5.out⟩

end Go.Proofs.Ythekefnocphcdaa

set_option linter.unusedVariables false

set_option linter.unusedSimpArgs false

namespace Go.Proofs.Ythekefnocphcdaa

open Go.RowKit

/-- do the numbers of a list become greater? -/
def incTo (l : List Int) : Nat → Bool
  | 0 => true
  | j + 1 => incTo l j && decide (nth l j < nth l (j + 1))

theorem incTo_false {l : List Int} {j m : Nat} (h : incTo l j = false) (hm : j ≤ m) : incTo l m = false := by
  induction hm with
  | refl => exact h
  | step _ ih => simp [incTo, ih]

def incB (l : List Int) : Bool := incTo l (l.length - 1)

def withinB (l side : List Int) : Bool := !anyB l (fun k => !hasB side k)

theorem withinB_mem {l side : List Int} (h : withinB l side = true) : ∀ x ∈ l, x ∈ side := by
  intro x hx
  unfold withinB anyB at h
  simp only [Bool.not_eq_true', List.any_eq_false] at h
  have := h x hx
  simp at this
  exact hasB_iff.1 this

def bcheckB (f : Flow) (n : Int) (l : List Int) : Bool := incB l && ((withinB l (lastL f f.lots.length) || withinB l (firstL f f.lots.length)) && (prodB f l && (prodR f l == n)))

def bcheckR (f : Flow) (n : Int) (l : List Int) : Bool := decide (checkE f = 0) && bcheckB f n l

theorem notin_any (B : Nat) (w : World) (v : Value) (zs : List Int) (x : Int) (c : Nat) (hv : IsInts B w v zs) (hc : w.cell? ⟨c, 0, none⟩ = some v) :
    Calls Try.prog 79 #[.int .i64 x, .pointer (some ⟨c, 0, none⟩)] w fun e w' => e = .returned (.bool (!hasB zs x)) ∧ w' = w := by
  have HC := Lib.hid (scontains_any B w v zs x hv)
  obtain ⟨b, off, cap, ⟨a, rfl, _⟩, _⟩ := hv
  go_enter Try.func79, Try.ntmps79
  go_wp2_with (go_at_call 66; refine HC.out.mono ?_; rintro e w5 ⟨rfl, rfl⟩)
  go_ret
  exact ⟨rfl, rfl⟩

theorem notin_ok (B : Nat) (w : World) (v : Value) (zs : List Int) (c : Nat) (hv : IsInts B w v zs) (hB : B ≤ w.heap.size) (hc : Cell1 w c v) :
    OkFn2 Try.prog 79 #[] #[.pointer (some ⟨c, 0, none⟩)] w (fun _ => True) (fun n => !hasB zs n) := by
  refine ⟨fun args W => by simp [go_sem], fun W x hW _ => ?_⟩
  refine (notin_any B W v zs x c (hv.below hW hB) (hc.ext hW).cell).mono ?_
  rintro e w' ⟨rfl, rfl⟩
  exact ⟨rfl, Below.refl _ _⟩

set_option maxHeartbeats 4000000 in
set_option maxRecDepth 100000 in
/-- bounds.Check -/
theorem bcheck_any (B : Nat) (w : World) (vs vl vx : Value) (f : Flow) (n : Int) (l : List Int) (hf : IsFlow B w vs vl f) (hx : IsInts B w vx l) (hB : B ≤ w.heap.size) (hl9 : l.length ≤ 1000) :
    Calls Try.prog 40 #[.agg #[vs, vl], .int .i64 n, vx] w fun e w' => e = .returned (.tuple #[.bool (bcheckR f n l), .int .i64 (checkE f)]) ∧ Below w.heap.size w w' := by
  have HF := Lib.hid hf
  have HI := Lib.hid hx
  obtain ⟨rfl, ⟨hs1, hs2⟩, hl⟩ := hf
  obtain ⟨b, off, cap, ⟨a, rfl, hcap, hmax, ha⟩, hlen, hc⟩ := hl
  obtain ⟨b1, off1, cap1, ⟨a1, rfl, hcap1, hmax1, ha1⟩, hlen1, hz1, hc1⟩ := hx
  have HC1 := Lib.hid hc1
  have HA1 := Lib.hid ha1
  clear hc ha hc1 ha1 hz1
  have HCK := Lib.hid (fun o => fcheck_any B (w.alloc o) _ _ f (HF.out.below (box_below hB o) (Nat.le_refl _)) (by simp; omega))
  obtain ⟨R, hR⟩ : ∃ x, bcheckR f n l = x := ⟨_, rfl⟩
  have HR := Lib.hid hR
  rw [hR]
  clear hR
  go_enter Try.func40, Try.ntmps40
  go_wp2_with fail
  refine (HCK.out _).mono ?_
  rintro e w5 ⟨rfl, hb5⟩
  have HX5 := Lib.hid ((Box.new w #[.int .i64 f.senders, .slice a f.lots.length cap] 24).ext hb5)
  have HW5 : Hid (Below w.heap.size w w5) := Lib.hid ((box_below (Nat.le_refl _) _).trans (hb5.mono (by simp)))
  clear hb5
  by_cases h1 : checkE f = 0
  · have h1' : (checkE f != 0) = false := by simpa using h1
    have H1 := Lib.hid h1
    have HR1 : Hid (R = bcheckB f n l) := Lib.hid (by rw [← HR.out]; unfold bcheckR; rw [decide_eq_true h1]; rfl)
    clear h1
    go_wp2
    go_loopw [8] (fun vi wr => ∃ j : Nat, (j + 1 ≤ l.length ∨ j = 0) ∧ vi = .int .i64 ((j : Int) + 1) ∧ incTo l j = true ∧ Drew w5 wr) (fun vi _ => l.length - (intOf vi).toNat)
    case atStart => exact ⟨0, Or.inr rfl, rfl, rfl, Drew.refl _⟩
    case round =>
      obtain ⟨j, hj, rfl, hin, hd⟩ := hrel
      have HIN := Lib.hid hin
      have HD := Lib.hid hd
      clear hin hd
      by_cases hlt : j + 1 < l.length
      · obtain rfl : a1 = some ⟨b1, off1, none⟩ := by rcases HA1.out with ha | ha; exact ha; omega
        have hbb1 : b1 < w.heap.size := by have := (HC1.out j (by omega)).1; omega
        have c1 := (HD.out.cell _).trans ((HW5.out.cell (p := ⟨b1, off1 + j, none⟩) hbb1).trans (HC1.out j (by omega)).2)
        have c2 := (HD.out.cell _).trans ((HW5.out.cell (p := ⟨b1, off1 + (j + 1), none⟩) hbb1).trans (HC1.out (j + 1) hlt).2)
        have hw1 : IntKind.i64.wrap ((j : Int) + 1 - 1) = (j : Int) := by rw [IntWalk.i64_in _ (by omega)]; omega
        have g1 : (0 : Int) ≤ (j : Int) + 1 := by omega
        have g2 : ((j : Int) + 1).toNat = j + 1 := by omega
        have g3 : (j : Int) + 1 < (l.length : Int) := by omega
        have g4 : (j : Int) < (l.length : Int) := by omega
        have HST : Hid (incTo l (j + 1) = (incTo l j && decide (nth l j < nth l (j + 1)))) := Lib.hid rfl
        by_cases hge : nth l (j + 1) ≤ nth l j
        · have HN : Hid (R = false) := Lib.hid (by
            rw [HR1.out]; unfold bcheckB incB
            rw [incTo_false (j := j + 1) (by rw [HST.out, decide_eq_false (by omega)]; simp) (by omega)]; rfl)
          have HGE := Lib.hid hge
          clear hge
          go_wp2
          go_quiet (fail)
          go_wp2
          · go_ret2
            exact ⟨by rw [HN.out, H1.out]; rfl, HW5.out.trans ((HD.out.drewN _).below _)⟩
          · exfalso
            have := HGE.out
            omega
        · have h5 : decide (nth l (j + 1) ≤ nth l j) = false := decide_eq_false hge
          have HN : Hid (incTo l (j + 1) = true) := Lib.hid (by rw [HST.out, HIN.out, decide_eq_true (by omega)]; rfl)
          go_wp2
          go_quiet (fail)
          go_wp2
          go_roundw
          case rel => exact ⟨j + 1, Or.inl (by omega), by go_num, HN.out, HD.out.drewN _⟩
          case measure => simp [intOf]; omega
      · have HIC : Hid (R = ((withinB l (lastL f f.lots.length) || withinB l (firstL f f.lots.length)) && (prodB f l && (prodR f l == n)))) := Lib.hid (by
          rw [HR1.out]; unfold bcheckB incB
          rw [show l.length - 1 = j by omega, HIN.out]; rfl)
        have hlt' : decide ((j : Int) + 1 < (l.length : Int)) = false := decide_eq_false (by omega)
        have HWR : Hid (Below w.heap.size w wr) := Lib.hid (HW5.out.trans (HD.out.below _))
        have HXR := Lib.hid (HX5.out.below (HD.out.below _) HX5.out.1)
        obtain ⟨zr, rr⟩ := HXR.out
        go_wp2_with fail
        refine (weave_any B wr _ _ f (HF.out.below HWR.out hB) (by have := HWR.out.size; omega) H1.out).mono ?_
        rintro e w6 ⟨vo6, vw6, rfl, hwb, hb6⟩
        have HX6 := Lib.hid (HXR.out.ext hb6)
        have HW6 : Hid (Below w.heap.size w w6) := Lib.hid (HWR.out.trans (hb6.mono HWR.out.size))
        have HWB6 := Lib.hid hwb
        clear hb6 hwb zr rr
        go_wp2_with fail
        refine (sides_any w6.heap.size w6 _ _ _ _ f HWB6.out (Nat.le_refl _) H1.out).mono ?_
        rintro e w7 ⟨vl7, vf7, rfl, hol, hof, hb7⟩
        have HX7 := Lib.hid (HX6.out.ext hb7)
        have HW7 : Hid (Below w.heap.size w w7) := Lib.hid (HW6.out.trans (hb7.mono HW6.out.size))
        have HOL7 := Lib.hid hol.isInts
        have HOF7 := Lib.hid hof.isInts
        obtain ⟨al7, nl7, cl7, rfl⟩ := hol.form'
        obtain ⟨af7, nf7, cf7, rfl⟩ := hof.form'
        clear hb7 hof hol
        obtain ⟨LA, hLA⟩ : ∃ x, lastL f f.lots.length = x := ⟨_, rfl⟩
        obtain ⟨FI, hFI⟩ : ∃ x, firstL f f.lots.length = x := ⟨_, rfl⟩
        have HLM := Lib.hid (lastL_mem f f.lots.length)
        have HFM := Lib.hid (firstL_mem f f.lots.length)
        rw [hLA] at HIC HOL7 HLM
        rw [hFI] at HIC HOF7 HFM
        clear hLA hFI
        have HPR := Lib.hid (fun W (hW : Below w.heap.size w W) hin => bproduct_any B W _ _ _ f l (HF.out.below hW hB) (HI.out.below hW hB) (by have := hW.size; omega) H1.out hin)
        obtain ⟨pr, hpr⟩ : ∃ x, prodR f l = x := ⟨_, rfl⟩
        obtain ⟨pb, hpb⟩ : ∃ x, prodB f l = x := ⟨_, rfl⟩
        rw [hpr, hpb] at HIC
        simp only [hpr, hpb] at HPR
        clear hpr hpb
        have HBX : Hid (CellsN (w7.alloc (.cells #[.slice al7 nl7 cl7, .slice af7 nf7 cf7] 34)) w7.heap.size #[.slice al7 nl7 cl7, .slice af7 nf7 cf7]) := Lib.hid (CellsN.new _ _ _)
        have HW8 : Hid (Below w.heap.size w (w7.alloc (.cells #[.slice al7 nl7 cl7, .slice af7 nf7 cf7] 34))) := Lib.hid (HW7.out.alloc HW7.out.size _)
        have HB8 : Hid (Below w7.heap.size w7 (w7.alloc (.cells #[.slice al7 nl7 cl7, .slice af7 nf7 cf7] 34))) := Lib.hid (box_below' _ _)
        go_wp2
        go_loopw [46] (fun vi wr => ∃ k : Nat, k ≤ 2 ∧ vi = .int .i64 k ∧ (1 ≤ k → withinB l LA = false) ∧ (2 ≤ k → withinB l FI = false) ∧ CellsN wr w7.heap.size #[.slice al7 nl7 cl7, .slice af7 nf7 cf7] ∧ Below w7.heap.size w7 wr ∧ Below w.heap.size w wr) (fun vi _ => 2 - (intOf vi).toNat)
        case atStart => exact ⟨0, by omega, rfl, fun h => by omega, fun h => by omega, HBX.out, HB8.out, HW8.out⟩
        case round =>
          obtain ⟨k, hk, rfl, hk1, hk2, hbx, hb7, hbl⟩ := hrel
          have HK1 := Lib.hid hk1
          have HK2 := Lib.hid hk2
          have HBXR := Lib.hid hbx
          have HB7R := Lib.hid hb7
          have HBLR := Lib.hid hbl
          clear hk1 hk2 hbx hb7 hbl
          have key : ∀ (side : List Int) (vsd : Value) (asd : Option Addr) (nsd csd : Nat), vsd = .slice asd nsd csd → IsInts w7.heap.size w7 vsd side → True := fun _ _ _ _ _ _ _ => trivial
          clear key
          have hkk : k = 0 ∨ k = 1 ∨ k = 2 := by omega
          rcases hkk with rfl | rfl | rfl
          · have d0 := HBXR.out.cell 0
            simp at d0
            have HCF := Lib.hid (containsf_any B (wr.alloc (.cells #[.slice al7 nl7 cl7] 34)) (.slice a1 l.length cap1) l 79 #[] #[.pointer (some ⟨wr.heap.size, 0, none⟩)] (fun _ => True) (fun x => !hasB LA x) (HI.out.below (HBLR.out.alloc HBLR.out.size _) hB) (by have := HBLR.out.size; simp; omega)
              (notin_ok w7.heap.size _ (.slice al7 nl7 cl7) LA wr.heap.size (HOL7.out.below (HB7R.out.alloc HB7R.out.size _) (Nat.le_refl _)) (by have := HB7R.out.size; simp; omega) (Cell1.new _ _ _)) (fun _ _ => trivial))
            obtain ⟨anyv, hany⟩ : ∃ x, anyB l (fun x => !hasB LA x) = x := ⟨_, rfl⟩
            have HWI : Hid (withinB l LA = !anyv) := Lib.hid (by unfold withinB; rw [hany])
            rw [hany] at HCF
            clear hany
            have hBLA := HBLR.out.alloc HBLR.out.size (.cells #[.slice al7 nl7 cl7] 34)
            cases anyv
            · have HN : Hid (R = (pb && (pr == n))) := Lib.hid (by rw [HIC.out, HWI.out]; simp)
              have HIR := Lib.hid (fun x hx => HLM.out x (withinB_mem (by rw [HWI.out]; rfl) x hx))
              have HB7A := HB7R.out.alloc HB7R.out.size (.cells #[.slice al7 nl7 cl7] 34)
              have HXX := Lib.hid (HX7.out.below HB7A HX7.out.1)
              have HBLX := Lib.hid hBLA
              clear HB7A hBLA
              cases pb
              all_goals
               go_wp2_with (first
                 | (go_at_call 67; refine HCF.out.mono ?_; rintro e w8 ⟨rfl, hb8⟩; have HW8' : Hid (Below w.heap.size w w8) := Lib.hid (HBLX.out.trans (hb8.mono (by have := HBLR.out.size; simp; omega))); have HX8 := Lib.hid (HXX.out.ext hb8); obtain ⟨z8, r8⟩ := HX8.out; clear hb8)
                 | (go_at_call 78; refine (HPR.out _ HW8'.out HIR.out).mono ?_; rintro e w9 ⟨rfl, hb9⟩; have HW9 : Hid (Below w.heap.size w w9) := Lib.hid (HW8'.out.trans (hb9.mono HW8'.out.size)); clear hb9 z8 r8))
               go_ret2
               exact ⟨by rw [HN.out, H1.out]; rfl, HW9.out⟩
            · have HN : Hid (withinB l LA = false) := Lib.hid (by rw [HWI.out]; rfl)
              have HBLX := Lib.hid hBLA
              clear hBLA
              go_wp2_with (go_at_call 67; refine HCF.out.mono ?_; rintro e w8 ⟨rfl, hb8⟩; have HB8' := Lib.hid hb8; clear hb8)
              go_roundw
              case rel => exact ⟨1, by omega, by go_num, fun _ => HN.out, fun h => by omega, (HBXR.out.alloc _).ext HB8'.out, (HB7R.out.alloc HB7R.out.size _).trans (HB8'.out.mono (by have := HB7R.out.size; simp; omega)), HBLX.out.trans (HB8'.out.mono (by have := HBLR.out.size; simp; omega))⟩
              case measure => simp [intOf]
          · have d1 := HBXR.out.cell 1
            simp at d1
            have HCF := Lib.hid (containsf_any B (wr.alloc (.cells #[.slice af7 nf7 cf7] 34)) (.slice a1 l.length cap1) l 79 #[] #[.pointer (some ⟨wr.heap.size, 0, none⟩)] (fun _ => True) (fun x => !hasB FI x) (HI.out.below (HBLR.out.alloc HBLR.out.size _) hB) (by have := HBLR.out.size; simp; omega)
              (notin_ok w7.heap.size _ (.slice af7 nf7 cf7) FI wr.heap.size (HOF7.out.below (HB7R.out.alloc HB7R.out.size _) (Nat.le_refl _)) (by have := HB7R.out.size; simp; omega) (Cell1.new _ _ _)) (fun _ _ => trivial))
            obtain ⟨anyv, hany⟩ : ∃ x, anyB l (fun x => !hasB FI x) = x := ⟨_, rfl⟩
            have HWI : Hid (withinB l FI = !anyv) := Lib.hid (by unfold withinB; rw [hany])
            rw [hany] at HCF
            clear hany
            have HLF := Lib.hid (HK1.out (Nat.le_refl _))
            have hBLA := HBLR.out.alloc HBLR.out.size (.cells #[.slice af7 nf7 cf7] 34)
            cases anyv
            · have HN : Hid (R = (pb && (pr == n))) := Lib.hid (by rw [HIC.out, HWI.out]; simp)
              have HIR := Lib.hid (fun x hx => HFM.out x (withinB_mem (by rw [HWI.out]; rfl) x hx))
              have HB7A := HB7R.out.alloc HB7R.out.size (.cells #[.slice af7 nf7 cf7] 34)
              have HXX := Lib.hid (HX7.out.below HB7A HX7.out.1)
              have HBLX := Lib.hid hBLA
              clear HB7A hBLA
              cases pb
              all_goals
               go_wp2_with (first
                 | (go_at_call 67; refine HCF.out.mono ?_; rintro e w8 ⟨rfl, hb8⟩; have HW8' : Hid (Below w.heap.size w w8) := Lib.hid (HBLX.out.trans (hb8.mono (by have := HBLR.out.size; simp; omega))); have HX8 := Lib.hid (HXX.out.ext hb8); obtain ⟨z8, r8⟩ := HX8.out; clear hb8)
                 | (go_at_call 78; refine (HPR.out _ HW8'.out HIR.out).mono ?_; rintro e w9 ⟨rfl, hb9⟩; have HW9 : Hid (Below w.heap.size w w9) := Lib.hid (HW8'.out.trans (hb9.mono HW8'.out.size)); clear hb9 z8 r8))
               go_ret2
               exact ⟨by rw [HN.out, H1.out]; rfl, HW9.out⟩
            · have HN : Hid (withinB l FI = false) := Lib.hid (by rw [HWI.out]; rfl)
              have HBLX := Lib.hid hBLA
              clear hBLA
              go_wp2_with (go_at_call 67; refine HCF.out.mono ?_; rintro e w8 ⟨rfl, hb8⟩; have HB8' := Lib.hid hb8; clear hb8)
              go_roundw
              case rel => exact ⟨2, by omega, by go_num, fun _ => HLF.out, fun _ => HN.out, (HBXR.out.alloc _).ext HB8'.out, (HB7R.out.alloc HB7R.out.size _).trans (HB8'.out.mono (by have := HB7R.out.size; simp; omega)), HBLX.out.trans (HB8'.out.mono (by have := HBLR.out.size; simp; omega))⟩
              case measure => simp [intOf]
          · have HN : Hid (R = false) := Lib.hid (by rw [HIC.out, HK1.out (by omega), HK2.out (Nat.le_refl _)]; rfl)
            go_wp2
            go_ret2
            exact ⟨by rw [HN.out, H1.out]; rfl, HBLR.out⟩
  · have HRF : Hid (R = false) := Lib.hid (by rw [← HR.out]; unfold bcheckR; rw [decide_eq_false h1]; rfl)
    have h1' : (checkE f != 0) = true := by simpa using h1
    clear h1
    go_wp2
    go_ret2
    exact ⟨by rw [HRF.out]; rfl, HW5.out⟩

end Go.Proofs.Ythekefnocphcdaa

set_option linter.unusedVariables false

set_option linter.unusedSimpArgs false

namespace Go.Proofs.Ythekefnocphcdaa

open Go.RowKit

theorem ofInt_i64 (a : Nat) (ha : a < 9223372036854775808) : (BitVec.ofInt 64 (a : Int)).toNat = a := by
  rw [BitVec.ofInt_natCast, BitVec.toNat_ofNat]; exact Nat.mod_eq_of_lt (by omega)

theorem i64_and_nat (a b : Nat) (ha : a < 9223372036854775808) (hb : b < 9223372036854775808) : bits .and .i64 (a : Int) (b : Int) = ((a &&& b : Nat) : Int) := by
  have hx : a &&& b < 2 ^ 63 := Nat.and_lt_two_pow _ (by omega)
  show IntKind.i64.wrap ((BitVec.ofInt 64 (a : Int) &&& BitVec.ofInt 64 (b : Int)).toNat : Int) = _
  rw [BitVec.toNat_and, ofInt_i64 a ha, ofInt_i64 b hb, IntKind.wrap_i64]
  omega

theorem i64_or_nat (a b : Nat) (ha : a < 9223372036854775808) (hb : b < 9223372036854775808) : bits .or .i64 (a : Int) (b : Int) = ((a ||| b : Nat) : Int) := by
  have hx : a ||| b < 2 ^ 63 := Nat.or_lt_two_pow (by omega) (by omega)
  show IntKind.i64.wrap ((BitVec.ofInt 64 (a : Int) ||| BitVec.ofInt 64 (b : Int)).toNat : Int) = _
  rw [BitVec.toNat_or, ofInt_i64 a ha, ofInt_i64 b hb, IntKind.wrap_i64]
  omega

theorem and_pow_zero (T k : Nat) : ((T &&& 2 ^ k : Nat) = 0) ↔ T.testBit k = false := by
  constructor
  · intro h
    have := congrArg (fun n => n.testBit k) h
    simp only [Nat.testBit_and, Nat.testBit_two_pow_self, Bool.and_true, Nat.zero_testBit] at this
    exact this
  · intro h
    apply Nat.eq_of_testBit_eq
    intro i
    rw [Nat.testBit_and, Nat.zero_testBit, Nat.testBit_two_pow]
    by_cases e : k = i
    · subst e; rw [h]; rfl
    · simp [e]

theorem and_pow (T k : Nat) (hT : T < 64) (hk : k < 6) : (bits BinOp.and IntKind.i64 (T : Int) ((2 ^ k : Nat) : Int) == 0) = !T.testBit k := by
  have hp : 2 ^ k < 2 ^ 6 := Nat.pow_lt_pow_right (by omega) hk
  rw [i64_and_nat _ _ (by omega) (by omega)]
  have h := and_pow_zero T k
  cases hb : T.testBit k
  · have := h.2 hb
    rw [this]; rfl
  · have : ¬ (T &&& 2 ^ k) = 0 := fun e => by rw [h.1 e] at hb; cases hb
    simp
    omega

theorem or_pow64 (T k : Nat) (hT : T < 64) (hk : k < 6) : bits BinOp.or IntKind.i64 (T : Int) ((2 ^ k : Nat) : Int) = ((T ||| 2 ^ k : Nat) : Int) ∧ T ||| 2 ^ k < 64 := by
  have hp : 2 ^ k < 2 ^ 6 := Nat.pow_lt_pow_right (by omega) hk
  refine ⟨i64_or_nat _ _ (by omega) (by omega), ?_⟩
  have : T ||| 2 ^ k < 2 ^ 6 := Nat.or_lt_two_pow (by omega) hp
  omega

theorem pow_wrap (k : Nat) (hk : k < 6) : IntKind.i64.wrap ((2 : Int) ^ k) = ((2 ^ k : Nat) : Int) := by
  have hp : 2 ^ k < 2 ^ 6 := Nat.pow_lt_pow_right (by omega) hk
  have e : ((2 : Int) ^ k) = ((2 ^ k : Nat) : Int) := by simp
  rw [e]
  generalize (2 ^ k : Nat) = q at hp
  exact IntWalk.i64_in _ (by omega)

def walV (L : WL) : AL := L.map fun p => (p.1, Value.int .i64 p.2)

theorem alook_walV (x : Int) : ∀ L : WL, (alook (walV L) x).getD (.int .i64 0) = .int .i64 (wlook L x)
  | [] => rfl
  | (k, v) :: r => by
    have ih := alook_walV x r
    simp only [walV, List.map_cons, alook, wlook] at *
    split
    · rfl
    · exact ih

theorem aset_walV (x v : Int) : ∀ L : WL, aset (walV L) x (.int .i64 v) = walV (wset L x v)
  | [] => rfl
  | (k, u) :: r => by
    have ih := aset_walV x v r
    simp only [walV, List.map_cons, aset, wset] at *
    split
    · rfl
    · simp only [List.map_cons, ih]

def iterLeft (w : World) (bm r : Nat) : Nat := match w.heap[bm]?, w.heap[r]? with
  | some (.map es _), some (.mapIter _ _ seen _) => (leftOf es seen).size
  | _, _ => 0

theorem MapIter.left {w : World} {bm r : Nat} {l left : AL} (h : MapIter w bm r l left) : iterLeft w bm r = left.length := by
  obtain ⟨es, c, seen, c0, a, b, d, e, f, g⟩ := h
  unfold iterLeft
  rw [a, b]
  have := congrArg List.length g
  simpa using this

section

variable {P : Program} {w : World} {ops : Array Oper} {rest : List Oper} {o : Oper} {a : Act} {Q : Exit → Act → World → Prop}

theorem wpList_insert_ints {T K E : TypeId} {r : Nat} {l : AL} (hg : Region.wanted o (yielded ops a.tmps) = true) (m xo vo : Operand) (hop : o.op = Op.insert T m xo vo)
    (hT : P.underlying T = some (.map K E)) (hK : P.underlying K = some (.int .i64)) (hm : a.eval m = .map (some r)) (h : IntMap w r l) {x : Int} {v : Value} (hx : a.eval xo = .int .i64 x) (hv : a.eval vo = v)
    (hk : ∀ w', IntMap w' r (aset l x v) → w.grownBy w' (some r) → w'.heap.size = w.heap.size → wpList P ops Q rest (a.put o.dst undef) w') : wpList P ops Q (o :: rest) a w := by
  refine wpList_want hg fun K' hK' => ?_
  obtain ⟨w', hrun, h1, h2, h3⟩ := run_update_ints hT hK h x v
  unfold Oper.wp
  simp only [execOp, hop, hm, hx, hv]
  simp [hrun, Result.andThen]
  exact hK' _ _ (hk w' h1 h2 h3)

theorem wpList_next_done {bm r : Nat} {l left : AL} (hg : Region.wanted o (yielded ops a.tmps) = true) (it : Operand) (hop : o.op = Op.next it false) (hit : a.eval it = .pointer (some ⟨r, 0, none⟩)) (h : MapIter w bm r l left) (hne : r ≠ bm) (he : left = [])
    (hk : wpList P ops Q rest (a.put o.dst (.tuple #[.bool false])) w) : wpList P ops Q (o :: rest) a w :=
  wpList_next_ints hg it hop hit h hne (fun _ => hk) (fun A x v B w' e => by rw [he] at e; simp at e)

theorem wpList_next_more {bm r : Nat} {l : AL} {lw : WL} (hg : Region.wanted o (yielded ops a.tmps) = true) (it : Operand) (hop : o.op = Op.next it false) (hit : a.eval it = .pointer (some ⟨r, 0, none⟩)) (h : MapIter w bm r l (walV lw)) (hne : r ≠ bm) (he : lw ≠ [])
    (hk : ∀ (A : WL) (x v : Int) (B : WL) (w' : World), lw = A ++ (x, v) :: B → MapIter w' bm r l (walV (A ++ B)) → w.grownBy w' (some r) → w'.heap.size = w.heap.size →
      (Instr.entry (.pointer (some ⟨r, 0, none⟩))).run P w' = .ok (.tuple #[.int .i64 x, .int .i64 v]) w' → wpList P ops Q rest (a.put o.dst (.tuple #[.bool true, .int .i64 x, .int .i64 v])) w') : wpList P ops Q (o :: rest) a w := by
  refine wpList_next_ints hg it hop hit h hne (fun e => ?_) (fun A x v B w' e h1 h2 h3 h4 => ?_)
  · exact absurd (List.map_eq_nil_iff.1 e) he
  · have e' : (A ++ (x, v) :: B).map id = lw.map (fun p => (p.1, Value.int .i64 p.2)) := by rw [List.map_id]; exact e.symm
    obtain ⟨A', p, B', q1, q2, q3⟩ := map_split e'
    obtain ⟨x', v'⟩ := p
    simp only [id, Prod.mk.injEq] at q2
    obtain ⟨rfl, rfl⟩ := q2
    rw [List.map_id] at q3
    rw [q3] at h1
    exact hk A' x v' B' w' q1 h1 h2 h3 h4

end

end Go.Proofs.Ythekefnocphcdaa
