/-
  Appends of numbers onto a list of the call's own: at a list of operations and as a step of a region that draws.
-/
import Derived.Test.YtmfbabmejbppjaaOwnI
import Derived.Test.YtmfbabmejbppjaaBas
set_option linter.unusedVariables false
set_option linter.unusedSimpArgs false
namespace Go.Proofs.Ytmfbabmejbppjaa
open Go.RowKit

theorem run_append_ints {w : World} {B : Nat} {v vx : Value} {xs ys : List Int} {ty : TypeId} (hown : OwnInts B w v xs) (hs : Src w 1 vx ys.length (ys.map (Value.int .i64))) (hz : ∀ y ∈ ys, I64 y)
    (hlen : xs.length + ys.length ≤ 17592186043904) (hB : B ≤ w.heap.size) :
    ∃ v' w', (Builtin.append_ #[23, 23] ty #[v, vx]).run Try.prog w = .ok v' w' ∧ OwnInts B w' v' (xs ++ ys) ∧ w.grownBy w' v.ownBlock ∧ (v'.ownBlock = v.ownBlock ∨ v'.ownBlock = some w.heap.size) := by
  obtain ⟨i0, hi, hz0, hz1, hz2⟩ := info_parts int_info
  obtain ⟨v', w', h1, h2, h3, h4⟩ := run_append_gen (P := Try.prog) w B 23 ty 3 i0 (.int .i64 0) 1 8 Try.underlying23 hi hz0 hz1 hz2 rfl (by decide) v xs.length _ hown.1 vx ys.length _ hs (by unfold maxLen; omega) (by omega) hB
  refine ⟨v', w', h1, ⟨by simpa using h2, by simpa using hlen, fun y hy => ?_⟩, h3, h4⟩
  rcases List.mem_append.1 hy with hy | hy
  · exact hown.2.2 y hy
  · exact hz y hy

/-- append of numbers, as a step of a region that draws -/
theorem step_append_ints {ops : Array Oper} {o : Oper} {a : Act} {w : World} {K : Act → World → Prop} {Q : Exit → Act → World → Prop} {E : Prop} (hgd : o.guard = none) (s x : Operand)
    (ho : o.op = .call { callee := .builtin .append, args := #[s, x], argTypes := #[23, 23] })
    {B : Nat} {v vx : Value} {xs : List Int} (ys : List Int) (hs : a.eval s = v) (hown : OwnInts B w v xs) (hx : a.eval x = vx) (hsrc : Src w 1 vx ys.length (ys.map (Value.int .i64))) (hz : ∀ y ∈ ys, I64 y)
    (hlen : xs.length + ys.length ≤ 17592186043904) (hB : B ≤ w.heap.size)
    (h : ∀ v' w', OwnInts B w' v' (xs ++ ys) → w.grownBy w' v.ownBlock → (v'.ownBlock = v.ownBlock ∨ v'.ownBlock = some w.heap.size) → K (a.put o.dst v') w') :
    if Region.wanted o (yielded ops a.tmps) = true then Oper.wp Try.prog o a w K Q else E := by
  have hw : Region.wanted o (yielded ops a.tmps) = true := by simp [Region.wanted, hgd]
  rw [if_pos hw]
  obtain ⟨v', w', h1, h2, h3, h4⟩ := run_append_ints (ty := o.type) hown hsrc hz hlen hB
  exact wp_of_append w ho hs hx h1 (h v' w' h2 h3 h4)
/-- append of numbers, at a list of operations -/
theorem append_intsA {ops : Array Oper} {rest : List Oper} {o : Oper} {a : Act} {w : World} {Q : Exit → Act → World → Prop} (hgd : o.guard = none) (s x : Operand)
    (ho : o.op = .call { callee := .builtin .append, args := #[s, x], argTypes := #[23, 23] })
    {B : Nat} {v vx : Value} {xs : List Int} (ys : List Int) (hs : a.eval s = v) (hown : OwnInts B w v xs) (hx : a.eval x = vx) (hsrc : Src w 1 vx ys.length (ys.map (Value.int .i64))) (hz : ∀ y ∈ ys, I64 y)
    (hlen : xs.length + ys.length ≤ 17592186043904) (hB : B ≤ w.heap.size)
    (h : ∀ v' w', OwnInts B w' v' (xs ++ ys) → w.grownBy w' v.ownBlock → (v'.ownBlock = v.ownBlock ∨ v'.ownBlock = some w.heap.size) → wpList Try.prog ops Q rest (a.put o.dst v') w') : wpList Try.prog ops Q (o :: rest) a w := by
  refine wpList_plain hgd fun K hK => ?_
  obtain ⟨v', w', h1, h2, h3, h4⟩ := run_append_ints (ty := o.type) hown hsrc hz hlen hB
  exact wp_of_append w ho hs hx h1 (hK _ _ (h v' w' h2 h3 h4))
theorem OwnInts.rows' {B : Nat} {w : World} {v : Value} {xs : List Int} (h : OwnInts B w v xs) : ∀ k, v.ownBlock = some k → B ≤ k := fun k hk => (h.1.lt k hk).1
theorem OwnInts.drew' {B : Nat} {w : World} {v : Value} {xs : List Int} (h : OwnInts B w v xs) : OwnInts B w.drew v xs := h
end Go.Proofs.Ytmfbabmejbppjaa
