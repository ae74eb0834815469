/-
  append onto a slice of the call's own: at a list of operations and as a step of a region that draws; the source may be empty. Lots of the call's own.
-/
import Derived.Test.YtndcbnnbgedgcaaOwn
import Derived.Maps.AppendAt
import Derived.Deep.AppendLies
import Derived.Deep.Slices
set_option linter.unusedVariables false
set_option linter.unusedSimpArgs false
namespace Go.Proofs.Ytndcbnnbgedgcaa
open Go.RowKit

section
variable {P : Program} (w : World)
theorem run_append_nil_src (base : Nat) (t ty e : TypeId) (i : TypeInfo) (size : Nat) (ht : P.underlying t = some (.slice e)) (hi : P.info? e = some i)
    (v : Value) (n : Nat) (xs : List Value) (hown : w.ownsRow base e size v n xs) (c : Nat) : (Builtin.append_ #[t, t] ty #[v, .slice none 0 c]).run P w = .ok v w := by
  rcases hown.2 with ⟨rfl, rfl⟩ | ⟨g, cap, cur, rfl, _, _, hnc, _⟩
  · simp [Builtin.append_, run_underlying ht, sizeOf, typeInfo, hi, Builtin.lenOf, Builtin.firstCells]
  · simp [Builtin.append_, run_underlying ht, sizeOf, typeInfo, hi, Builtin.lenOf, Builtin.firstCells, hnc, storeCells]

/-- a source of an append: a slice whose m elements are the cells news -/
def Src (w : World) (size : Nat) (vx : Value) (m : Nat) (news : List Value) : Prop :=
  ∃ A c, vx = .slice A m c ∧ news.length = m * size ∧ (∀ j u, news[j]? = some u → ∃ ad, A = some ad ∧ w.cell? (ad.add j) = some u) ∧ ∀ u ∈ news, u.oneCell' = true

theorem run_append_gen (base : Nat) (t ty e : TypeId) (i : TypeInfo) (z : Value) (size bytes : Nat) (ht : P.underlying t = some (.slice e)) (hi : P.info? e = some i) (hz : i.zero = some z)
    (hsize : i.size = size) (hby : i.bytes = bytes) (hzs : z.cells.size = size) (hsz : 0 < size)
    (v : Value) (n : Nat) (xs : List Value) (hown : w.ownsRow base e size v n xs)
    (vx : Value) (m : Nat) (news : List Value) (hr : Src w size vx m news)
    (h63 : n + m ≤ maxLen) (hbytes : (n + m) * bytes ≤ 140737488355328) (hbase : base ≤ w.heap.size) :
    ∃ v' w', (Builtin.append_ #[t, t] ty #[v, vx]).run P w = .ok v' w' ∧ w'.ownsRow base e size v' (n + m) (xs ++ news) ∧ w.grownBy w' v.ownBlock ∧
      (v'.ownBlock = v.ownBlock ∨ v'.ownBlock = some w.heap.size) := by
  obtain ⟨A, c, rfl, hl, hc, h1⟩ := hr
  rcases A with _ | ad
  · have hn : news = [] := by
      rcases news with _ | ⟨u, r⟩
      · rfl
      · obtain ⟨ad, h, _⟩ := hc 0 u rfl
        cases h
    subst hn
    have hm : m = 0 := by
      rcases Nat.eq_zero_or_pos m with h | h
      · exact h
      · have := Nat.mul_pos h hsz
        simp only [List.length_nil] at hl
        omega
    subst hm
    exact ⟨v, w, run_append_nil_src w base t ty e i size ht hi v n xs hown c, by simpa using hown, World.grownBy.refl w _, .inl rfl⟩
  · have hcells : ∀ j u, news[j]? = some u → w.cell? (ad.add j) = some u := by
      intro j u hu
      obtain ⟨ad', h, hh⟩ := hc j u hu
      injection h with h
      subst h
      exact hh
    obtain ⟨v', w', hrun, h2, h3, _, h5⟩ := run_append_own_at (P := P) w base t ty e i z size bytes ht hi hz hsize hby hzs hsz v n xs hown ad m c news hl hcells h1 h63 hbytes hbase
    exact ⟨v', w', hrun, h2, h3, h5⟩

theorem wp_of_append {o : Oper} {a : Act} {K : Act → World → Prop} {Q : Exit → Act → World → Prop} {s x : Operand} {t : TypeId}
    (ho : o.op = .call { callee := .builtin .append, args := #[s, x], argTypes := #[t, t] }) {v vx v' : Value} {w' : World} (hs : a.eval s = v) (hx : a.eval x = vx)
    (hrun : (Builtin.append_ #[t, t] o.type #[v, vx]).run P w = .ok v' w') (h : K (a.put o.dst v') w') : o.wp P a w K Q := by
  unfold Oper.wp execOp
  simp only [ho, resolve, invoke, builtin, Sem.run_bind, Sem.run_pure, Result.andThen_ok, List.map_toArray, List.map_cons, List.map_nil, hs, hx, hrun]
  exact h
end

theorem IsInts.src {B : Nat} {w : World} {v : Value} {ys : List Int} (h : IsInts B w v ys) : Src w 1 v ys.length (ys.map (Value.int .i64)) := by
  obtain ⟨b, off, cap, ⟨ad, rfl, hcap, hmax, ha⟩, hly, hz, hc⟩ := h
  refine ⟨ad, cap, rfl, by simp, fun j u hj => ?_, fun u hu => ?_⟩
  · have hlt : j < ys.length := by
      have := (List.getElem?_eq_some_iff.1 hj).1
      simpa using this
    obtain rfl : ad = some ⟨b, off, none⟩ := by rcases ha with ha | ha; exact ha; omega
    have h1 := (hc j hlt).2
    rw [nth_eq_getElem hlt] at h1
    rw [List.getElem?_map, List.getElem?_eq_getElem hlt] at hj
    have e : (⟨b, off, none⟩ : Addr).add j = ⟨b, off + j, none⟩ := by unfold Addr.add; split <;> simp_all
    refine ⟨_, rfl, ?_⟩
    rw [e, h1]
    simpa using hj
  · obtain ⟨n, _, rfl⟩ := List.mem_map.1 hu
    rfl
theorem src_one {w : World} {g c : Nat} {u : Value} (hg : w.cell? ⟨g, 0, none⟩ = some u) (h1 : u.oneCell' = true) : Src w 1 (.slice (some ⟨g, 0, none⟩) 1 c) 1 [u] := by
  refine ⟨_, c, rfl, rfl, fun j u' hj => ?_, by simpa using h1⟩
  match j, hj with
  | 0, hj => simp at hj; subst hj; exact ⟨_, rfl, by simpa [Addr.add] using hg⟩

/-- append of numbers: the run -/
theorem run_append_ints {w : World} {B : Nat} {v vx : Value} {xs ys : List Int} {ty : TypeId} (hown : OwnInts B w v xs) (hs : Src w 1 vx ys.length (ys.map (Value.int .i64))) (hz : ∀ y ∈ ys, I64 y)
    (hlen : xs.length + ys.length ≤ 17592186043904) (hB : B ≤ w.heap.size) :
    ∃ v' w', (Builtin.append_ #[25, 25] ty #[v, vx]).run Try.prog w = .ok v' w' ∧ OwnInts B w' v' (xs ++ ys) ∧ w.grownBy w' v.ownBlock ∧ (v'.ownBlock = v.ownBlock ∨ v'.ownBlock = some w.heap.size) := by
  obtain ⟨i0, hi, hz0, hz1, hz2⟩ := info_parts int_info
  obtain ⟨v', w', h1, h2, h3, h4⟩ := run_append_gen (P := Try.prog) w B 25 ty 3 i0 (.int .i64 0) 1 8 Try.underlying25 hi hz0 hz1 hz2 rfl (by decide) v xs.length _ hown.1 vx ys.length _ hs (by unfold maxLen; omega) (by omega) hB
  refine ⟨v', w', h1, ⟨by simpa using h2, by simpa using hlen, fun y hy => ?_⟩, h3, h4⟩
  rcases List.mem_append.1 hy with hy | hy
  · exact hown.2.2 y hy
  · exact hz y hy

/-- append of numbers, as a step of a region that draws -/
theorem step_append_ints {ops : Array Oper} {o : Oper} {a : Act} {w : World} {K : Act → World → Prop} {Q : Exit → Act → World → Prop} {E : Prop} (hgd : o.guard = none) (s x : Operand)
    (ho : o.op = .call { callee := .builtin .append, args := #[s, x], argTypes := #[25, 25] })
    {B : Nat} {v vx : Value} {xs : List Int} (ys : List Int) (hs : a.eval s = v) (hown : OwnInts B w v xs) (hx : a.eval x = vx) (hsrc : Src w 1 vx ys.length (ys.map (Value.int .i64))) (hz : ∀ y ∈ ys, I64 y)
    (hlen : xs.length + ys.length ≤ 17592186043904) (hB : B ≤ w.heap.size)
    (h : ∀ v' w', OwnInts B w' v' (xs ++ ys) → w.grownBy w' v.ownBlock → (v'.ownBlock = v.ownBlock ∨ v'.ownBlock = some w.heap.size) → K (a.put o.dst v') w') :
    if Region.wanted o (yielded ops a.tmps) = true then Oper.wp Try.prog o a w K Q else E := by
  have hw : Region.wanted o (yielded ops a.tmps) = true := by simp [Region.wanted, hgd]
  rw [if_pos hw]
  obtain ⟨v', w', h1, h2, h3, h4⟩ := run_append_ints (ty := o.type) hown hsrc hz hlen hB
  exact wp_of_append w ho hs hx h1 (h v' w' h2 h3 h4)
/-- append of numbers, at a list of operations -/
theorem append_intsA {ops : Array Oper} {rest : List Oper} {o : Oper} {a : Act} {w : World} {Q : Exit → Act → World → Prop} (hgd : o.guard = none) (s x : Operand)
    (ho : o.op = .call { callee := .builtin .append, args := #[s, x], argTypes := #[25, 25] })
    {B : Nat} {v vx : Value} {xs : List Int} (ys : List Int) (hs : a.eval s = v) (hown : OwnInts B w v xs) (hx : a.eval x = vx) (hsrc : Src w 1 vx ys.length (ys.map (Value.int .i64))) (hz : ∀ y ∈ ys, I64 y)
    (hlen : xs.length + ys.length ≤ 17592186043904) (hB : B ≤ w.heap.size)
    (h : ∀ v' w', OwnInts B w' v' (xs ++ ys) → w.grownBy w' v.ownBlock → (v'.ownBlock = v.ownBlock ∨ v'.ownBlock = some w.heap.size) → wpList Try.prog ops Q rest (a.put o.dst v') w') : wpList Try.prog ops Q (o :: rest) a w := by
  refine wpList_plain hgd fun K hK => ?_
  obtain ⟨v', w', h1, h2, h3, h4⟩ := run_append_ints (ty := o.type) hown hsrc hz hlen hB
  exact wp_of_append w ho hs hx h1 (hK _ _ (h v' w' h2 h3 h4))

/-! ### lots -/
theorem lot_info : (Try.prog.info? 45).map (fun i => (i.zero, i.size, i.bytes)) = some (some (.agg #[.slice none 0 0, .bool false, .slice none 0 0]), 3, 56) := by kernel_rfl
structure V3 where
  i : Value
  k : Value
  p : Value
instance : Inhabited V3 := ⟨⟨undef, undef, undef⟩⟩
def flat : List V3 → List Value
  | [] => []
  | c :: r => c.i :: c.k :: c.p :: flat r
def v3At (l : List V3) (j : Nat) : V3 := l.getD j default
theorem flat_len : ∀ l, (flat l).length = l.length * 3
  | [] => rfl
  | c :: r => by simp [flat, flat_len r]; omega
theorem flat_append : ∀ a b, flat (a ++ b) = flat a ++ flat b
  | [], _ => rfl
  | c :: r, b => by simp [flat, flat_append r b]
theorem v3At_left {a b : List V3} {j : Nat} (h : j < a.length) : v3At (a ++ b) j = v3At a j := by
  unfold v3At; rw [List.getD_eq_getElem?_getD, List.getD_eq_getElem?_getD, List.getElem?_append_left h]
theorem v3At_right {a b : List V3} {j : Nat} (h : a.length ≤ j) : v3At (a ++ b) j = v3At b (j - a.length) := by
  unfold v3At; rw [List.getD_eq_getElem?_getD, List.getD_eq_getElem?_getD, List.getElem?_append_right h]
theorem lotAt_left {a b : List Lot} {j : Nat} (h : j < a.length) : lotAt (a ++ b) j = lotAt a j := by
  unfold lotAt; rw [List.getD_eq_getElem?_getD, List.getD_eq_getElem?_getD, List.getElem?_append_left h]
theorem lotAt_right {a b : List Lot} {j : Nat} (h : a.length ≤ j) : lotAt (a ++ b) j = lotAt b (j - a.length) := by
  unfold lotAt; rw [List.getD_eq_getElem?_getD, List.getD_eq_getElem?_getD, List.getElem?_append_right h]
theorem flat_get : ∀ (l : List V3) (j : Nat), j < l.length → (flat l)[j * 3]? = some (v3At l j).i ∧ (flat l)[j * 3 + 1]? = some (v3At l j).k ∧ (flat l)[j * 3 + 2]? = some (v3At l j).p
  | c :: r, 0, _ => by simp [flat, v3At]
  | c :: r, j + 1, h => by
    have ih := flat_get r j (by simpa using h)
    have e : (j + 1) * 3 = j * 3 + 3 := by omega
    have e1 : v3At (c :: r) (j + 1) = v3At r j := by unfold v3At; simp
    rw [e, e1]
    simp only [flat]
    refine ⟨?_, ?_, ?_⟩
    · simpa using ih.1
    · have : j * 3 + 3 + 1 = (j * 3 + 1) + 3 := by omega
      rw [this]; simpa using ih.2.1
    · have : j * 3 + 3 + 2 = (j * 3 + 2) + 3 := by omega
      rw [this]; simpa using ih.2.2
theorem flat_idx {l : List V3} {q : Nat} {u : Value} (h : (flat l)[q]? = some u) : ∃ j, j < l.length ∧ ((q = j * 3 ∧ u = (v3At l j).i) ∨ (q = j * 3 + 1 ∧ u = (v3At l j).k) ∨ (q = j * 3 + 2 ∧ u = (v3At l j).p)) := by
  have hq := (List.getElem?_eq_some_iff.1 h).1
  rw [flat_len] at hq
  have hj : q / 3 < l.length := by omega
  have hg := flat_get l (q / 3) hj
  refine ⟨q / 3, hj, ?_⟩
  rcases (by omega : q = q / 3 * 3 ∨ q = q / 3 * 3 + 1 ∨ q = q / 3 * 3 + 2) with e | e | e
  · left; refine ⟨e, ?_⟩; rw [← e, h] at hg; simpa using hg.1
  · right; left; refine ⟨e, ?_⟩; rw [← e, h] at hg; simpa using hg.2.1
  · right; right; refine ⟨e, ?_⟩; rw [← e, h] at hg; simpa using hg.2.2

theorem IsInts.one {B : Nat} {w : World} {v : Value} {xs : List Int} (h : IsInts B w v xs) : v.oneCell' = true := by
  obtain ⟨b, off, cap, ⟨a, rfl, _⟩, _⟩ := h; rfl
theorem IsLot.one {B : Nat} {w : World} {vi vk vp : Value} {d : Lot} (h : IsLot B w vi vk vp d) : vi.oneCell' = true ∧ vk.oneCell' = true ∧ vp.oneCell' = true := by
  obtain ⟨h1, rfl, h3⟩ := h
  exact ⟨h1.one, rfl, h3.one⟩

/-- a source of lots: their numbers lie in blocks below C -/
def SrcLots (C : Nat) (w : World) (vx : Value) (ys : List Lot) : Prop :=
  ∃ vals : List V3, Src w 3 vx ys.length (flat vals) ∧ vals.length = ys.length ∧ ∀ j, j < ys.length → IsLot C w (v3At vals j).i (v3At vals j).k (v3At vals j).p (lotAt ys j)

theorem add3 (b o j : Nat) : (⟨b, o, none⟩ : Addr).add j = ⟨b, o + j, none⟩ := by unfold Addr.add; split <;> simp_all

theorem IsLots.src {B C : Nat} {w : World} {v : Value} {ys : List Lot} (h : IsLots B w v ys) (hB : B ≤ C) : SrcLots C w v ys := by
  obtain ⟨b, off, cap, ⟨ad, rfl, hcap, hmax, ha⟩, hl, hc⟩ := h
  obtain ⟨L, hL⟩ := Go.Deep.choose_lt (α := V3) (n := ys.length) (p := fun j c => CellB B w b (off + j * 3) c.i ∧ CellB B w b (off + j * 3 + 1) c.k ∧ CellB B w b (off + j * 3 + 2) c.p ∧ IsLot B w c.i c.k c.p (lotAt ys j)) (fun j hj => by
    obtain ⟨vi, vk, vp, h1, h2, h3, h4⟩ := hc j hj
    exact ⟨⟨vi, vk, vp⟩, h1, h2, h3, h4⟩)
  have hvl : ((List.range ys.length).map L).length = ys.length := by simp
  have hat : ∀ j, j < ys.length → v3At ((List.range ys.length).map L) j = L j := fun j hj => by
    unfold v3At
    rw [List.getD_eq_getElem?_getD]
    simp [hj]
  refine ⟨(List.range ys.length).map L, ⟨ad, cap, rfl, by rw [flat_len, hvl], fun q u hu => ?_, fun u hu => ?_⟩, hvl, fun j hj => by rw [hat j hj]; exact (hL j hj).2.2.2.mono hB⟩
  · obtain ⟨j, hj, he⟩ := flat_idx hu
    rw [hvl] at hj
    obtain rfl : ad = some ⟨b, off, none⟩ := by rcases ha with ha | ha; exact ha; omega
    obtain ⟨h1, h2, h3, _⟩ := hL j hj
    rw [hat j hj] at he
    refine ⟨_, rfl, ?_⟩
    rw [add3]
    rcases he with ⟨rfl, rfl⟩ | ⟨rfl, rfl⟩ | ⟨rfl, rfl⟩
    · exact h1.2
    · rw [← Nat.add_assoc]; exact h2.2
    · rw [← Nat.add_assoc]; exact h3.2
  · obtain ⟨q, hq⟩ := List.getElem?_of_mem hu
    obtain ⟨j, hj, he⟩ := flat_idx hq
    rw [hvl] at hj
    rw [hat j hj] at he
    have := (hL j hj).2.2.2.one
    rcases he with ⟨_, rfl⟩ | ⟨_, rfl⟩ | ⟨_, rfl⟩
    · exact this.1
    · exact this.2.1
    · exact this.2.2
theorem srcLots_one {C g c : Nat} {w : World} {vi vk vp : Value} {d : Lot} (h1 : w.cell? ⟨g, 0, none⟩ = some vi) (h2 : w.cell? ⟨g, 1, none⟩ = some vk) (h3 : w.cell? ⟨g, 2, none⟩ = some vp) (hd : IsLot C w vi vk vp d) : SrcLots C w (.slice (some ⟨g, 0, none⟩) 1 c) [d] := by
  refine ⟨[⟨vi, vk, vp⟩], ⟨_, c, rfl, rfl, fun q u hu => ?_, ?_⟩, rfl, fun j hj => ?_⟩
  · refine ⟨_, rfl, ?_⟩
    rw [add3]
    simp only [flat] at hu
    match q, hu with
    | 0, hu => simp at hu; subst hu; simpa using h1
    | 1, hu => simp at hu; subst hu; simpa using h2
    | 2, hu => simp at hu; subst hu; simpa using h3
  · have := hd.one
    simp [flat, this.1, this.2.1, this.2.2]
  · have : j = 0 := by simpa using hj
    subst this
    exact hd

/-- v reads as the lots ls; its row was made from block C on; the lots' numbers lie below C -/
def OwnLots (C : Nat) (w : World) (v : Value) (ls : List Lot) : Prop :=
  ∃ vals : List V3, w.ownsRow C 45 3 v ls.length (flat vals) ∧ vals.length = ls.length ∧ ls.length ≤ 2513169434900 ∧ ∀ j, j < ls.length → IsLot C w (v3At vals j).i (v3At vals j).k (v3At vals j).p (lotAt ls j)
theorem OwnLots.nil (C : Nat) (w : World) : OwnLots C w (.slice none 0 0) [] := ⟨[], World.ownsRow_nil _ _ _ _, rfl, by simp, fun j hj => by simp at hj⟩
theorem OwnLots.made {C n : Nat} {w : World} (hn : n = w.heap.size) (hC : C ≤ w.heap.size) : OwnLots C (w.alloc (.cells #[] 45)) (.slice (some ⟨n, 0, none⟩) 0 0) [] := by
  subst hn
  exact ⟨[], World.ownsRow_made w #[] 0 hC (by simp) rfl, rfl, by simp, fun j hj => by simp at hj⟩
theorem OwnLots.kept {C : Nat} {w w' : World} {v : Value} {ls : List Lot} {row : Option Nat} (h : OwnLots C w v ls) (hg : w.grownBy w' row) (hr : ∀ k, row = some k → C ≤ k) (hC : C ≤ w.heap.size) (hne : v.ownBlock = none ∨ v.ownBlock ≠ row) : OwnLots C w' v ls := by
  obtain ⟨vals, h1, h2, h3, h4⟩ := h
  have hb : Below C w w' := (Below.refl C w).grown hg hC hr
  exact ⟨vals, h1.kept hg hne, h2, h3, fun j hj => (h4 j hj).below hb (Nat.le_refl _)⟩
theorem OwnLots.below {C : Nat} {w w' : World} {v : Value} {ls : List Lot} (h : OwnLots C w v ls) (hb : Below w.heap.size w w') (hC : C ≤ w.heap.size) : OwnLots C w' v ls :=
  h.kept (row := none) ⟨hb.os, hb.tape, hb.output, hb.size, fun k hk _ => hb.block k hk⟩ (fun k hk => by cases hk) hC (by cases hv : v.ownBlock <;> simp)
theorem OwnLots.form {C : Nat} {w : World} {v : Value} {ls : List Lot} (h : OwnLots C w v ls) : ∃ a cap, v = .slice a ls.length cap := by
  obtain ⟨vals, h1, h2, h3, h4⟩ := h
  rcases h1.2 with ⟨rfl, hn⟩ | ⟨g, cap, cur, rfl, rest⟩
  · exact ⟨none, 0, by rw [hn]⟩
  · exact ⟨_, cap, rfl⟩
theorem OwnLots.isLots {C : Nat} {w : World} {v : Value} {ls : List Lot} (h : OwnLots C w v ls) (hC : C ≤ w.heap.size) : IsLots w.heap.size w v ls := by
  obtain ⟨vals, ⟨hl, h1⟩, h2, h3, h4⟩ := h
  rcases h1 with ⟨rfl, hn⟩ | ⟨g, cap, cur, rfl, hb, hg, hnc, hcm, hcs, htk⟩
  · exact ⟨0, 0, 0, ⟨none, by rw [hn], by omega, by omega, Or.inr hn⟩, h3, fun j hj => by omega⟩
  · refine ⟨g, 0, cap, ⟨some ⟨g, 0, none⟩, rfl, hnc, by unfold maxLen at hcm; omega, Or.inl rfl⟩, h3, fun j hj => ⟨(v3At vals j).i, (v3At vals j).k, (v3At vals j).p, ?_⟩⟩
    have hgl := (Array.getElem?_eq_some_iff.1 hg).1
    have key : ∀ q u, q < ls.length * 3 → (flat vals)[q]? = some u → w.cell? ⟨g, 0 + q, none⟩ = some u := by
      intro q u hq hu
      simp only [World.cell?, hg, Nat.zero_add]
      have : (cur.toList.take (ls.length * 3))[q]? = (flat vals)[q]? := by rw [htk]
      rw [List.getElem?_take, if_pos hq, hu] at this
      simpa using this
    have hf := flat_get vals j (by omega)
    exact ⟨⟨hgl, key _ _ (by omega) hf.1⟩, ⟨hgl, key _ _ (by omega) hf.2.1⟩, ⟨hgl, key _ _ (by omega) hf.2.2⟩, (h4 j hj).mono hC⟩

theorem run_append_lots {w : World} {C : Nat} {v vx : Value} {xs ys : List Lot} {ty : TypeId} (hown : OwnLots C w v xs) (hs : SrcLots C w vx ys) (hlen : xs.length + ys.length ≤ 2513169434900) (hC : C ≤ w.heap.size) :
    ∃ v' w', (Builtin.append_ #[22, 22] ty #[v, vx]).run Try.prog w = .ok v' w' ∧ OwnLots C w' v' (xs ++ ys) ∧ w.grownBy w' v.ownBlock ∧ (v'.ownBlock = v.ownBlock ∨ v'.ownBlock = some w.heap.size) := by
  obtain ⟨i0, hi, hz0, hz1, hz2⟩ := info_parts lot_info
  obtain ⟨vals, o1, o2, o3, o4⟩ := hown
  obtain ⟨news, s1, s2, s3⟩ := hs
  obtain ⟨v', w', h1, h2, h3, h4⟩ := run_append_gen (P := Try.prog) w C 22 ty 45 i0 _ 3 56 Try.underlying22 hi hz0 hz1 hz2 rfl (by decide) v xs.length _ o1 vx ys.length _ s1 (by unfold maxLen; omega) (by omega) hC
  have hb : Below C w w' := (Below.refl C w).grown h3 hC (fun k hk => (o1.lt k hk).1)
  refine ⟨v', w', h1, ⟨vals ++ news, by rw [flat_append]; simpa using h2, by simp [o2, s2], by simpa using hlen, fun j hj => ?_⟩, h3, h4⟩
  by_cases e : j < xs.length
  · rw [v3At_left (by omega), lotAt_left e]
    exact (o4 j e).below hb (Nat.le_refl _)
  · rw [v3At_right (by omega), lotAt_right (by omega), o2]
    exact (s3 (j - xs.length) (by simp at hj; omega)).below hb (Nat.le_refl _)

theorem step_append_lots {ops : Array Oper} {o : Oper} {a : Act} {w : World} {K : Act → World → Prop} {Q : Exit → Act → World → Prop} {E : Prop} (hgd : o.guard = none) (s x : Operand)
    (ho : o.op = .call { callee := .builtin .append, args := #[s, x], argTypes := #[22, 22] })
    {C : Nat} {v vx : Value} {xs ys : List Lot} (hs : a.eval s = v) (hown : OwnLots C w v xs) (hx : a.eval x = vx) (hsrc : SrcLots C w vx ys) (hlen : xs.length + ys.length ≤ 2513169434900) (hC : C ≤ w.heap.size)
    (h : ∀ v' w', OwnLots C w' v' (xs ++ ys) → w.grownBy w' v.ownBlock → (v'.ownBlock = v.ownBlock ∨ v'.ownBlock = some w.heap.size) → K (a.put o.dst v') w') :
    if Region.wanted o (yielded ops a.tmps) = true then Oper.wp Try.prog o a w K Q else E := by
  have hw : Region.wanted o (yielded ops a.tmps) = true := by simp [Region.wanted, hgd]
  rw [if_pos hw]
  obtain ⟨v', w', h1, h2, h3, h4⟩ := run_append_lots (ty := o.type) hown hsrc hlen hC
  exact wp_of_append w ho hs hx h1 (h v' w' h2 h3 h4)
theorem append_lotsA {ops : Array Oper} {rest : List Oper} {o : Oper} {a : Act} {w : World} {Q : Exit → Act → World → Prop} (hgd : o.guard = none) (s x : Operand)
    (ho : o.op = .call { callee := .builtin .append, args := #[s, x], argTypes := #[22, 22] })
    {C : Nat} {v vx : Value} {xs ys : List Lot} (hs : a.eval s = v) (hown : OwnLots C w v xs) (hx : a.eval x = vx) (hsrc : SrcLots C w vx ys) (hlen : xs.length + ys.length ≤ 2513169434900) (hC : C ≤ w.heap.size)
    (h : ∀ v' w', OwnLots C w' v' (xs ++ ys) → w.grownBy w' v.ownBlock → (v'.ownBlock = v.ownBlock ∨ v'.ownBlock = some w.heap.size) → wpList Try.prog ops Q rest (a.put o.dst v') w') : wpList Try.prog ops Q (o :: rest) a w := by
  refine wpList_plain hgd fun K hK => ?_
  obtain ⟨v', w', h1, h2, h3, h4⟩ := run_append_lots (ty := o.type) hown hsrc hlen hC
  exact wp_of_append w ho hs hx h1 (hK _ _ (h v' w' h2 h3 h4))

end Go.Proofs.Ytndcbnnbgedgcaa
