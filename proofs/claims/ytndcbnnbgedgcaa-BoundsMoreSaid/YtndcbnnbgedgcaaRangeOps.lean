/-
  The laws on maps and appends for walks in a loop over a function.
-/
import Derived.Test.YtndcbnnbgedgcaaRange
import Derived.Test.YtndcbnnbgedgcaaOwn
set_option linter.unusedVariables false
set_option linter.unusedSimpArgs false
namespace Go.Proofs.Ytndcbnnbgedgcaa
open Go.RowKit

theorem OwnInts.turned {X : Nat → Prop} {B : Nat} {w w' : World} {v : Value} {xs : List Int} (h : OwnInts B w v xs) (ht : Turned X w w') (hx : ∀ k, B ≤ k → ¬ X k) : OwnInts B w' v xs := by
  refine ⟨⟨h.1.1, ?_⟩, h.2⟩
  rcases h.1.2 with hn | ⟨g, cap, cur, hv, hb, hg, rest⟩
  · exact Or.inl hn
  · exact Or.inr ⟨g, cap, cur, hv, hb, (ht.block g (Array.getElem?_eq_some_iff.1 hg).1 (hx g hb)).trans hg, rest⟩

section
variable {F : Fence} {nF : Nat} {P : Program} {w : World} {T K E : TypeId} {r : Nat} {ops : Array Oper} {rest : List Oper} {o : Oper} {a : Act} {Q : Exit → Act → World → Prop}

theorem wpListIn_want (hw : Region.wanted o (yielded ops a.tmps) = true)
    (h : ∀ K : Act → World → Prop, (∀ a w, wpListIn F nF P ops Q rest a w → K a w) → o.wpIn F nF P a w K Q) : wpListIn F nF P ops Q (o :: rest) a w :=
  wpListIn_step fun K hK => by rw [if_pos hw]; exact h K hK

theorem wpListIn_lookup_ints {l : AL} (hg : Region.wanted o (yielded ops a.tmps) = true) (m xo : Operand) (ok : Bool) (hop : o.op = Op.lookup T m xo ok)
    (hT : P.underlying T = some (.map K E)) (hK : P.underlying K = some (.int .i64)) {z : Value} (hz : (zeroValue E).run P w = .ok z w) (hm : a.eval m = .map (some r)) (h : IntMap w r l) {x : Int} (hx : a.eval xo = .int .i64 x)
    (hk : wpListIn F nF P ops Q rest (a.put o.dst (if ok then .tuple #[(alook l x).getD z, .bool (alook l x).isSome] else (alook l x).getD z)) w) : wpListIn F nF P ops Q (o :: rest) a w := by
  refine wpListIn_want hg fun K' hK' => ?_
  unfold Oper.wpIn
  refine ⟨by simp [Oper.about, hop], ?_⟩
  rw [Oper.semAt_plain F _ _ (by rw [hop]; intro c hc'; cases hc')]
  simp only [execOp, hop, hm, hx]
  simp [run_lookup_ints hT hK hz h x ok, Result.andThen]
  exact hK' _ _ hk

theorem wpListIn_update_ints {l : AL} (hg : Region.wanted o (yielded ops a.tmps) = true) (m xo vo : Operand) (hop : o.op = Op.mapUpdate T m xo vo)
    (hT : P.underlying T = some (.map K E)) (hK : P.underlying K = some (.int .i64)) (hm : a.eval m = .map (some r)) (h : IntMap w r l) {x : Int} {v : Value} (hx : a.eval xo = .int .i64 x) (hv : a.eval vo = v)
    (hk : ∀ w', IntMap w' r (aset l x v) → w.grownBy w' (some r) → w'.heap.size = w.heap.size → wpListIn F nF P ops Q rest (a.put o.dst undef) w') : wpListIn F nF P ops Q (o :: rest) a w := by
  refine wpListIn_want hg fun K' hK' => ?_
  obtain ⟨w', hrun, h1, h2, h3⟩ := run_update_ints hT hK h x v
  unfold Oper.wpIn
  refine ⟨by simp [Oper.about, hop], ?_⟩
  rw [Oper.semAt_plain F _ _ (by rw [hop]; intro c hc'; cases hc')]
  simp only [execOp, hop, hm, hx, hv]
  simp [hrun, Result.andThen]
  exact hK' _ _ (hk w' h1 h2 h3)

theorem wpListIn_lookup_set {S : List Int} (hg : Region.wanted o (yielded ops a.tmps) = true) (m xo : Operand) (hop : o.op = Op.lookup T m xo false)
    (hT : P.underlying T = some (.map K E)) (hK : P.underlying K = some (.int .i64)) (hz : (zeroValue E).run P w = .ok (.bool false) w) (hm : a.eval m = .map (some r)) (h : SetMap w r S) {x : Int} (hx : a.eval xo = .int .i64 x)
    (hk : wpListIn F nF P ops Q rest (a.put o.dst (.bool (hasB S x))) w) : wpListIn F nF P ops Q (o :: rest) a w := by
  obtain ⟨l, h1, h2⟩ := h
  refine wpListIn_lookup_ints hg m xo false hop hT hK hz hm h1 hx ?_
  simp only [Bool.false_eq_true, if_false, h2]
  exact hk
theorem wpListIn_update_set {S : List Int} (hg : Region.wanted o (yielded ops a.tmps) = true) (m xo vo : Operand) (hop : o.op = Op.mapUpdate T m xo vo)
    (hT : P.underlying T = some (.map K E)) (hK : P.underlying K = some (.int .i64)) (hm : a.eval m = .map (some r)) (h : SetMap w r S) {x : Int} (hx : a.eval xo = .int .i64 x) (hv : a.eval vo = .bool true)
    (hk : ∀ w', SetMap w' r (S ++ [x]) → w.grownBy w' (some r) → w'.heap.size = w.heap.size → wpListIn F nF P ops Q rest (a.put o.dst undef) w') : wpListIn F nF P ops Q (o :: rest) a w := by
  obtain ⟨l, h1, h2⟩ := h
  refine wpListIn_update_ints hg m xo vo hop hT hK hm h1 hx hv fun w' q1 q2 q3 => hk w' ⟨_, q1, fun y => ?_⟩ q2 q3
  rw [alook_aset, hasB_snoc]
  by_cases e : y = x
  · subst e; simp
  · have e2 : (x == y) = false := by simp; exact fun h => e h.symm
    rw [if_neg e, e2, Bool.or_false]; exact h2 y
end

/-- append(s, n), in a loop over a function -/
theorem append_intIn {F : Fence} {nF : Nat} {ops : Array Oper} {rest : List Oper} {o : Oper} {a : Act} {w : World} {Q : Exit → Act → World → Prop} (hgd : o.guard = none) (s x : Operand)
    (ho : o.op = .call { callee := .builtin .append, args := #[s, x], argTypes := #[25, 25] })
    {B : Nat} {v : Value} {xs : List Int} {n : Int} {g c : Nat} (hs : a.eval s = v) (hown : OwnInts B w v xs) (hx : a.eval x = .slice (some ⟨g, 0, none⟩) 1 c)
    (hg : w.cell? ⟨g, 0, none⟩ = some (.int .i64 n)) (hn : I64 n) (hlen : xs.length + 1 ≤ 17592186043904) (hB : B ≤ w.heap.size)
    (h : ∀ v' w', OwnInts B w' v' (xs ++ [n]) → w.grownBy w' v.ownBlock → wpListIn F nF Try.prog ops Q rest (a.put o.dst v') w') : wpListIn F nF Try.prog ops Q (o :: rest) a w := by
  obtain ⟨i0, hi, hz0, hz1, hz2⟩ := info_parts int_info
  refine wpListIn_append_own w hgd s x 25 ho B 3 i0 (.int .i64 0) 1 8 Try.underlying25 hi hz0 hz1 hz2 rfl (by decide) v xs.length (xs.map (Value.int .i64)) hs hown.1 ⟨g, 0, none⟩ 1 c [.int .i64 n] hx rfl ?_ ?_ ?_ ?_ hB ?_
  · intro j u hj
    match j, hj with
    | 0, hj => simp at hj; subst hj; simpa [Addr.add] using hg
  · intro u hu; simp at hu; subst hu; rfl
  · unfold maxLen; omega
  · omega
  · intro v' w' h1 h2 _
    refine h v' w' ⟨by simpa using h1, by simpa using hlen, ?_⟩ h2
    intro y hy
    rcases List.mem_append.1 hy with hy | hy
    · exact hown.2.2 y hy
    · simp at hy; subst hy; exact hn

end Go.Proofs.Ytndcbnnbgedgcaa
