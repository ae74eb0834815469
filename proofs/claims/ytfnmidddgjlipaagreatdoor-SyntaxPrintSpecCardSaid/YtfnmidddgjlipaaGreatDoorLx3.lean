/-
  Layer 3: tokens in memory.
-/
import Derived.Test.YtfnmidddgjlipaaGreatDoorBas
import Derived.Test.YtfnmidddgjlipaaGreatDoorLx2
set_option linter.unusedVariables false
set_option linter.unusedSimpArgs false
namespace Go.Proofs.YtfnmidddgjlipaaGreatDoor
open Go.RowKit

abbrev strV (l : List UInt8) : Value := .string ⟨l.toArray⟩
def tokC (t : Tok) : List Value := [.int .i64 t.kind, strV t.text, .int .i64 t.n, .int .i64 t.pos]
def flatT (ts : List Tok) : List Value := ts.flatMap tokC
def okT (t : Tok) : Prop := I64 t.kind ∧ t.text.length ≤ 140737488351232 ∧ I64 t.n ∧ I64 t.pos
def tokAt (ts : List Tok) (j : Nat) : Tok := ts.getD j default
theorem tokAt_get {ts : List Tok} {j : Nat} (h : j < ts.length) : tokAt ts j = ts[j] := by
  unfold tokAt; rw [List.getD_eq_getElem?_getD, List.getElem?_eq_getElem h]; rfl
theorem flatT_len : ∀ ts, (flatT ts).length = ts.length * 4
  | [] => rfl
  | t :: r => by
    have := flatT_len r
    unfold flatT at *
    rw [List.flatMap_cons, List.length_append, this]
    simp [tokC]
    omega
theorem flatT_append (a b : List Tok) : flatT (a ++ b) = flatT a ++ flatT b := by unfold flatT; simp
theorem flatT_get : ∀ (ts : List Tok) (j : Nat), j < ts.length → ∀ q, q < 4 → (flatT ts)[j * 4 + q]? = (tokC (tokAt ts j))[q]?
  | t :: r, 0, _, q, hq => by
    unfold flatT
    rw [List.flatMap_cons, List.getElem?_append_left (by simp [tokC]; omega)]
    simp [tokAt]
  | t :: r, j + 1, h, q, hq => by
    have ih := flatT_get r j (by simpa using h) q hq
    unfold flatT at *
    rw [List.flatMap_cons, List.getElem?_append_right (by simp [tokC]; omega)]
    have e : (j + 1) * 4 + q - (tokC t).length = j * 4 + q := by simp [tokC]; omega
    rw [e, ih]
    simp [tokAt]
theorem flatT_one : ∀ (ts : List Tok), ∀ v ∈ flatT ts, v.oneCell' = true := by
  intro ts v hv
  obtain ⟨t, _, h⟩ := List.mem_flatMap.1 hv
  simp [tokC, strV] at h
  rcases h with rfl | rfl | rfl | rfl <;> rfl

/-- v reads as the tokens ts: cells in block b < B -/
def IsToks (B : Nat) (w : World) (v : Value) (ts : List Tok) : Prop :=
  ∃ b off cap, SliceV v ts.length b off cap ∧ ts.length ≤ 3518437208800 ∧ (∀ t ∈ ts, okT t) ∧ ∀ j, j < ts.length → CellB B w b (off + j * 4) (.int .i64 (tokAt ts j).kind) ∧ CellB B w b (off + j * 4 + 1) (strV (tokAt ts j).text) ∧
    CellB B w b (off + j * 4 + 2) (.int .i64 (tokAt ts j).n) ∧ CellB B w b (off + j * 4 + 3) (.int .i64 (tokAt ts j).pos)
theorem IsToks.below {B B' : Nat} {w w' : World} {v : Value} {ts : List Tok} (h : IsToks B w v ts) (hb : Below B' w w') (hB : B ≤ B') : IsToks B w' v ts := by
  obtain ⟨b, off, cap, h1, h2, h3, h4⟩ := h
  exact ⟨b, off, cap, h1, h2, h3, fun j hj => ⟨(h4 j hj).1.below hb hB, (h4 j hj).2.1.below hb hB, (h4 j hj).2.2.1.below hb hB, (h4 j hj).2.2.2.below hb hB⟩⟩
theorem IsToks.mono {B B' : Nat} {w : World} {v : Value} {ts : List Tok} (h : IsToks B w v ts) (hB : B ≤ B') : IsToks B' w v ts := by
  obtain ⟨b, off, cap, h1, h2, h3, h4⟩ := h
  exact ⟨b, off, cap, h1, h2, h3, fun j hj => ⟨(h4 j hj).1.mono hB, (h4 j hj).2.1.mono hB, (h4 j hj).2.2.1.mono hB, (h4 j hj).2.2.2.mono hB⟩⟩
theorem IsToks.nil (B : Nat) (w : World) : IsToks B w (.slice none 0 0) [] := ⟨0, 0, 0, ⟨none, rfl, Nat.le_refl _, by omega, Or.inr rfl⟩, by simp, by simp, fun j hj => by simp at hj⟩

/-- tokens of the call's own -/
def OwnToks (C : Nat) (w : World) (v : Value) (ts : List Tok) : Prop :=
  w.ownsRow C 72 4 v ts.length (flatT ts) ∧ ts.length ≤ 3518437208800 ∧ ∀ t ∈ ts, okT t
theorem OwnToks.nil (C : Nat) (w : World) : OwnToks C w (.slice none 0 0) [] := ⟨World.ownsRow_nil _ _ _ _, by simp, by simp⟩
theorem OwnToks.made {C n : Nat} {w : World} (hn : n = w.heap.size) (hC : C ≤ w.heap.size) : OwnToks C (w.alloc (.cells #[] 72)) (.slice (some ⟨n, 0, none⟩) 0 0) [] := by
  subst hn
  exact ⟨World.ownsRow_made w #[] 0 hC (by simp) rfl, by simp, by simp⟩
theorem OwnToks.kept {C : Nat} {w w' : World} {v : Value} {ts : List Tok} {row : Option Nat} (h : OwnToks C w v ts) (hg : w.grownBy w' row) (hne : v.ownBlock = none ∨ v.ownBlock ≠ row) : OwnToks C w' v ts :=
  ⟨h.1.kept hg hne, h.2⟩
theorem OwnToks.below {C : Nat} {w w' : World} {v : Value} {ts : List Tok} (h : OwnToks C w v ts) (hb : Below w.heap.size w w') : OwnToks C w' v ts :=
  h.kept (row := none) ⟨hb.os, hb.tape, hb.output, hb.size, fun k hk _ => hb.block k hk⟩ (by cases hv : v.ownBlock <;> simp)
theorem OwnToks.alloc {C : Nat} {w : World} {v : Value} {ts : List Tok} (h : OwnToks C w v ts) (o : Obj) : OwnToks C (w.alloc o) v ts := h.below (box_below' w o)
theorem OwnToks.form {C : Nat} {w : World} {v : Value} {ts : List Tok} (h : OwnToks C w v ts) : ∃ a cap, v = .slice a ts.length cap := by
  obtain ⟨h1, _⟩ := h
  rcases h1.2 with ⟨rfl, hn⟩ | ⟨g, cap, cur, rfl, rest⟩
  · exact ⟨none, 0, by rw [hn]⟩
  · exact ⟨_, cap, rfl⟩
theorem OwnToks.lt {C : Nat} {w : World} {v : Value} {ts : List Tok} (h : OwnToks C w v ts) : ∀ k, v.ownBlock = some k → C ≤ k ∧ k < w.heap.size := h.1.lt
theorem OwnToks.isToks {C : Nat} {w : World} {v : Value} {ts : List Tok} (h : OwnToks C w v ts) : IsToks w.heap.size w v ts := by
  obtain ⟨⟨hl, h1⟩, h2, h3⟩ := h
  rcases h1 with ⟨rfl, hn⟩ | ⟨g, cap, cur, rfl, hb, hg, hnc, hcm, hcs, htk⟩
  · exact ⟨0, 0, 0, ⟨none, by rw [hn], by omega, by omega, Or.inr hn⟩, h2, h3, fun j hj => by omega⟩
  · refine ⟨g, 0, cap, ⟨some ⟨g, 0, none⟩, rfl, hnc, by unfold maxLen at hcm; omega, Or.inl rfl⟩, h2, h3, fun j hj => ?_⟩
    have hgl := (Array.getElem?_eq_some_iff.1 hg).1
    have key : ∀ q u, q < ts.length * 4 → (flatT ts)[q]? = some u → w.cell? ⟨g, 0 + q, none⟩ = some u := by
      intro q u hq hu
      simp only [World.cell?, hg, Nat.zero_add]
      have : (cur.toList.take (ts.length * 4))[q]? = (flatT ts)[q]? := by rw [htk]
      rw [List.getElem?_take, if_pos hq, hu] at this
      simpa using this
    exact ⟨⟨hgl, key _ _ (by omega) (flatT_get ts j hj 0 (by omega))⟩, ⟨hgl, key _ _ (by omega) (flatT_get ts j hj 1 (by omega))⟩, ⟨hgl, key _ _ (by omega) (flatT_get ts j hj 2 (by omega))⟩, ⟨hgl, key _ _ (by omega) (flatT_get ts j hj 3 (by omega))⟩⟩

theorem tok_info : (Tryz.prog.info? 72).map (fun i => (i.zero, i.size, i.bytes)) = some (some (.agg #[.int .i64 0, .string ByteArray.empty, .int .i64 0, .int .i64 0]), 4, 40) := by kernel_rfl
theorem run_append_toks {w : World} {C : Nat} {v vx : Value} {xs ys : List Tok} {ty : TypeId} (hown : OwnToks C w v xs) (hs : Src w 4 vx ys.length (flatT ys)) (hy : ∀ t ∈ ys, okT t) (hlen : xs.length + ys.length ≤ 3518437208800) (hC : C ≤ w.heap.size) :
    ∃ v' w', (Builtin.append_ #[35, 35] ty #[v, vx]).run Tryz.prog w = .ok v' w' ∧ OwnToks C w' v' (xs ++ ys) ∧ w.grownBy w' v.ownBlock ∧ (v'.ownBlock = v.ownBlock ∨ v'.ownBlock = some w.heap.size) := by
  obtain ⟨i0, hi, hz0, hz1, hz2⟩ := info_parts tok_info
  obtain ⟨v', w', h1, h2, h3, h4⟩ := run_append_gen (P := Tryz.prog) w C 35 ty 72 i0 _ 4 40 Tryz.underlying35 hi hz0 hz1 hz2 rfl (by decide) v xs.length _ hown.1 vx ys.length _ hs (by unfold maxLen; omega) (by omega) hC
  refine ⟨v', w', h1, ⟨by rw [flatT_append, List.length_append]; exact h2, by simpa using hlen, fun t ht => ?_⟩, h3, h4⟩
  rcases List.mem_append.1 ht with h | h
  · exact hown.2.2 t h
  · exact hy t h
theorem step_append_toks {ops : Array Oper} {o : Oper} {a : Act} {w : World} {K : Act → World → Prop} {Q : Exit → Act → World → Prop} {E : Prop} (hgd : o.guard = none) (s x : Operand)
    (ho : o.op = .call { callee := .builtin .append, args := #[s, x], argTypes := #[35, 35] })
    {C : Nat} {v vx : Value} {xs ys : List Tok} (hs : a.eval s = v) (hown : OwnToks C w v xs) (hx : a.eval x = vx) (hsrc : Src w 4 vx ys.length (flatT ys)) (hy : ∀ t ∈ ys, okT t) (hlen : xs.length + ys.length ≤ 3518437208800) (hC : C ≤ w.heap.size)
    (h : ∀ v' w', OwnToks C w' v' (xs ++ ys) → w.grownBy w' v.ownBlock → (v'.ownBlock = v.ownBlock ∨ v'.ownBlock = some w.heap.size) → K (a.put o.dst v') w') :
    if Region.wanted o (yielded ops a.tmps) = true then Oper.wp Tryz.prog o a w K Q else E := by
  have hw : Region.wanted o (yielded ops a.tmps) = true := by simp [Region.wanted, hgd]
  rw [if_pos hw]
  obtain ⟨v', w', h1, h2, h3, h4⟩ := run_append_toks (ty := o.type) hown hsrc hy hlen hC
  exact wp_of_append w ho hs hx h1 (h v' w' h2 h3 h4)
theorem append_toksA {ops : Array Oper} {rest : List Oper} {o : Oper} {a : Act} {w : World} {Q : Exit → Act → World → Prop} (hgd : o.guard = none) (s x : Operand)
    (ho : o.op = .call { callee := .builtin .append, args := #[s, x], argTypes := #[35, 35] })
    {C : Nat} {v vx : Value} {xs ys : List Tok} (hs : a.eval s = v) (hown : OwnToks C w v xs) (hx : a.eval x = vx) (hsrc : Src w 4 vx ys.length (flatT ys)) (hy : ∀ t ∈ ys, okT t) (hlen : xs.length + ys.length ≤ 3518437208800) (hC : C ≤ w.heap.size)
    (h : ∀ v' w', OwnToks C w' v' (xs ++ ys) → w.grownBy w' v.ownBlock → (v'.ownBlock = v.ownBlock ∨ v'.ownBlock = some w.heap.size) → wpList Tryz.prog ops Q rest (a.put o.dst v') w') : wpList Tryz.prog ops Q (o :: rest) a w := by
  refine wpList_plain hgd fun K hK => ?_
  obtain ⟨v', w', h1, h2, h3, h4⟩ := run_append_toks (ty := o.type) hown hsrc hy hlen hC
  exact wp_of_append w ho hs hx h1 (hK _ _ (h v' w' h2 h3 h4))
/-- one token in a block of its own, as a source -/
theorem src_tok {w : World} {g c : Nat} {t : Tok} (h0 : w.cell? ⟨g, 0, none⟩ = some (.int .i64 t.kind)) (h1 : w.cell? ⟨g, 1, none⟩ = some (strV t.text)) (h2 : w.cell? ⟨g, 2, none⟩ = some (.int .i64 t.n)) (h3 : w.cell? ⟨g, 3, none⟩ = some (.int .i64 t.pos)) :
    Src w 4 (.slice (some ⟨g, 0, none⟩) 1 c) [t].length (flatT [t]) := by
  refine ⟨_, c, rfl, rfl, fun q u hu => ?_, flatT_one [t]⟩
  have add4 : ∀ j, (⟨g, 0, none⟩ : Addr).add j = ⟨g, 0 + j, none⟩ := fun j => by unfold Addr.add; split <;> simp_all
  refine ⟨_, rfl, ?_⟩
  rw [add4]
  simp only [flatT, List.flatMap_cons, List.flatMap_nil, List.append_nil, tokC] at hu
  match q, hu with
  | 0, hu => simp at hu; subst hu; simpa using h0
  | 1, hu => simp at hu; subst hu; simpa using h1
  | 2, hu => simp at hu; subst hu; simpa using h2
  | 3, hu => simp at hu; subst hu; simpa using h3
end Go.Proofs.YtfnmidddgjlipaaGreatDoor
