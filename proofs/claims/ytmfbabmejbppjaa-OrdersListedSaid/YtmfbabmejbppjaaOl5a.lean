/-
  Layer 18: what OrdersAgainst needs: wishes whose names after against stand in another order, or twice; slices of lists of records; an append as a step of a drawn region.
-/
import Derived.Test.YtmfbabmejbppjaaOl4
set_option linter.unusedVariables false
set_option linter.unusedSimpArgs false
namespace Go.Proofs.Ytmfbabmejbppjaa
open Go.RowKit

theorem sortI_permEq {a b : List Int} (h : a.Perm b) : sortI a = sortI b := sorted_unique (sortI_sorted a) (sortI_sorted b) ((sortI_perm a).trans (h.trans (sortI_perm b).symm))
theorem against_same {n : NamesD} {x : WishD} {l : List Str} (h : l.Perm x.against) : resE n [{ x with against := l }] = resE n [x] ∧ resL n [{ x with against := l }] = resL n [x] := by
  have h1 : knownB n { x with against := l } = knownB n x := by
    unfold knownB
    have : l.all (fun s => decide (0 ≤ idxI n.offices s)) = x.against.all (fun s => decide (0 ≤ idxI n.offices s)) := by
      rw [Bool.eq_iff_iff, List.all_eq_true, List.all_eq_true]
      exact ⟨fun hh s hs => hh s (h.mem_iff.2 hs), fun hh s hs => hh s (h.mem_iff.1 hs)⟩
    simp only [this]
  have h2 : orderOf n { x with against := l } = orderOf n x := by
    unfold orderOf
    simp only
    rw [sortI_permEq (h.map (idxI n.offices))]
  have h3 : resE n [{ x with against := l }] = resE n [x] := by
    unfold resE ordersOf namesDiff
    simp only [List.map_cons, List.map_nil, List.all_cons, List.all_nil, List.length_cons, List.length_nil, h1, h2]
  exact ⟨h3, by unfold resL ordersOf; rw [h3]; simp only [List.map_cons, List.map_nil, h2]⟩
theorem rises_sorted {offs : Int} : ∀ {l : List Int} {last : Int}, risesB offs last l = true → l.Pairwise (· < ·)
  | [], _, _ => List.Pairwise.nil
  | a :: r, last, h => by
    simp only [risesB, Bool.and_eq_true, decide_eq_true_eq] at h
    refine List.pairwise_cons.2 ⟨fun y hy => ?_, rises_sorted h.2⟩
    obtain ⟨k, hk, rfl⟩ := List.getElem_of_mem hy
    have := (rises_mean h.2 k hk).1
    rwa [nth_eq_getElem hk] at this
theorem against_twice {n : NamesD} {x : WishD} {k : Nat} (hk : k < x.against.length) : resE n [{ x with against := x.against ++ [strAt x.against k] }] ≠ 0 := fun h0 => by
  obtain ⟨hc, _, _, h4, h5⟩ := resE_zero h0
  have h6 : rightN n (orderOf n { x with against := x.against ++ [strAt x.against k] }) = true := by simpa [ordersOf] using h5
  unfold rightN rightB at h6
  simp only [Bool.and_eq_true] at h6
  have h7 := rises_sorted h6.2
  have h8 : (sortI ((x.against ++ [strAt x.against k]).map (idxI n.offices))).Nodup := h7.imp (fun h => by omega)
  have h9 := (sortI_perm ((x.against ++ [strAt x.against k]).map (idxI n.offices))).nodup_iff.1 h8
  rw [List.map_append, List.nodup_append] at h9
  refine h9.2.2 (idxI n.offices (strAt x.against k)) ?_ (idxI n.offices (strAt x.against k)) (by simp) rfl
  exact List.mem_map_of_mem (by rw [strAt_get hk]; exact List.getElem_mem hk)

theorem IsRecs.takeS {D : Type} {k : Nat} {R : Nat → World → List Value → D → Prop} {L B : Nat} {d0 : D} {w : World} {b off n cap i : Nat} {xs : List D} (h : IsRecs k R L d0 B w (.slice (some ⟨b, off, none⟩) n cap) xs) (hi : i ≤ xs.length) :
    IsRecs k R L d0 B w (.slice (some ⟨b, off, none⟩) i cap) (xs.take i) := by
  obtain ⟨b', off', cap', ⟨a, e, h1, h2, h3⟩, h4, h5⟩ := h
  cases e
  refine ⟨b', off', cap, ⟨_, by rw [List.length_take, Nat.min_eq_left hi], by rw [List.length_take]; omega, h2, ?_⟩, by rw [List.length_take]; omega, fun j hj => ?_⟩
  · rcases h3 with h3 | h3
    · exact Or.inl h3
    · right; rw [List.length_take]; omega
  · rw [List.length_take] at hj
    obtain ⟨c, c1, c2⟩ := h5 j (by omega)
    refine ⟨c, c1, ?_⟩
    have : (xs.take i).getD j d0 = xs.getD j d0 := by
      rw [List.getD_eq_getElem?_getD, List.getD_eq_getElem?_getD, List.getElem?_take, if_pos (by omega)]
    rw [this]; exact c2
theorem IsRecs.dropS {D : Type} {k : Nat} {R : Nat → World → List Value → D → Prop} {L B : Nat} {d0 : D} {w : World} {b off n cap i : Nat} {xs : List D} (h : IsRecs k R L d0 B w (.slice (some ⟨b, off, none⟩) n cap) xs) (hi : i < xs.length) :
    IsRecs k R L d0 B w (.slice (some ⟨b, off + i * k, none⟩) (xs.length - i) (cap - i)) (xs.drop i) := by
  obtain ⟨b', off', cap', ⟨a, e, h1, h2, h3⟩, h4, h5⟩ := h
  cases e
  rcases h3 with h3 | h3
  rotate_left
  · omega
  cases h3
  refine ⟨b, off + i * k, cap - i, ⟨_, by rw [List.length_drop], by rw [List.length_drop]; omega, by omega, Or.inl rfl⟩, by rw [List.length_drop]; omega, fun j hj => ?_⟩
  rw [List.length_drop] at hj
  obtain ⟨c, c1, c2⟩ := h5 (i + j) (by omega)
  refine ⟨c, fun q u hq => ?_, ?_⟩
  · have := c1 q u hq
    rw [show off + i * k + j * k + q = off + (i + j) * k + q by rw [Nat.add_mul]; omega]
    exact this
  · have : (xs.drop i).getD j d0 = xs.getD (i + j) d0 := by
      rw [List.getD_eq_getElem?_getD, List.getD_eq_getElem?_getD, List.getElem?_drop]
    rw [this]; exact c2

/-- append of records of the call's own, as an operation -/
theorem wp_append_recs {D : Type} {k : Nat} {R : Nat → World → List Value → D → Prop} {ty : TypeId} {L C : Nat} {d0 : D} {w : World} {v : Value} {xs : List D} (hR : RecK k R) (hk : 0 < k) {bytes : Nat} {zero : Value} {t : TypeId} (hinfo : (Try.prog.info? ty).map (fun i => (i.zero, i.size, i.bytes)) = some (some zero, k, bytes)) (ht : Try.prog.underlying t = some (.slice ty)) (hzs : zero.cells.size = k) (hLb : L * bytes ≤ 140737488355328) (hLm : L ≤ maxLen)
    {o : Oper} {a : Act} {K : Act → World → Prop} {Q : Exit → Act → World → Prop} (s x : Operand)
    (ho : o.op = .call { callee := .builtin .append, args := #[s, x], argTypes := #[t, t] })
    {vx : Value} {ys : List D} (hs : a.eval s = v) (hown : OwnRecs ty k R L d0 C w v xs) (hx : a.eval x = vx) (hsrc : SrcRecs k R d0 C w vx ys) (hlen : xs.length + ys.length ≤ L) (hC : C ≤ w.heap.size)
    (h : ∀ v' w', OwnRecs ty k R L d0 C w' v' (xs ++ ys) → w.grownBy w' v.ownBlock → (v'.ownBlock = v.ownBlock ∨ v'.ownBlock = some w.heap.size) → K (a.put o.dst v') w') : o.wp Try.prog a w K Q := by
  obtain ⟨v', w', h1, h2, h3, h4⟩ := run_append_recs hR hk hinfo ht hzs hLb hLm (oty := o.type) hown hsrc hlen hC
  exact wp_of_append w ho hs hx h1 (h v' w' h2 h3 h4)
end Go.Proofs.Ytmfbabmejbppjaa
