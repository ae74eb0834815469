/-
  Lists of records of the call's own whose cells lead to further blocks of its own.
-/
import Derived.Test.YtfnmidddgjlipaaGreatDoorRec
import Derived.Test.YtfnmidddgjlipaaGreatDoorOwnI
set_option linter.unusedVariables false
set_option linter.unusedSimpArgs false
namespace Go.Proofs.YtfnmidddgjlipaaGreatDoor
open Go.RowKit

/-- v reads as the numbers xs, its cells lie in a block of S -/
def IsIntsS (S : Nat → Prop) (w : World) (v : Value) (xs : List Int) : Prop :=
  ∃ b off cap, SliceV v xs.length b off cap ∧ xs.length ≤ 17592186043904 ∧ (∀ x ∈ xs, I64 x) ∧
    ∀ j, j < xs.length → S b ∧ w.cell? ⟨b, off + j, none⟩ = some (.int .i64 (nth xs j))
theorem IsIntsS.keep {S : Nat → Prop} {w w' : World} {v : Value} {xs : List Int} (h : IsIntsS S w v xs) (hk : ∀ q, S q → w'.heap[q]? = w.heap[q]?) : IsIntsS S w' v xs := by
  obtain ⟨b, off, cap, h1, h2, h3, h4⟩ := h
  exact ⟨b, off, cap, h1, h2, h3, fun j hj => ⟨(h4 j hj).1, (World.cell?_of_block (a := ⟨b, off + j, none⟩) (hk b (h4 j hj).1)).trans (h4 j hj).2⟩⟩
theorem IsIntsS.ints {S : Nat → Prop} {w : World} {v : Value} {xs : List Int} {B : Nat} (h : IsIntsS S w v xs) (hS : ∀ q, S q → q < B) : IsInts B w v xs := by
  obtain ⟨b, off, cap, h1, h2, h3, h4⟩ := h
  exact ⟨b, off, cap, h1, h2, h3, fun j hj => ⟨hS b (h4 j hj).1, (h4 j hj).2⟩⟩
theorem OwnInts.intsS {B : Nat} {w : World} {v : Value} {xs : List Int} (h : OwnInts B w v xs) : IsIntsS (fun q => v.ownBlock = some q) w v xs := by
  obtain ⟨b, off, cap, h1, h2, h3, h4⟩ := h.isInts
  refine ⟨b, off, cap, h1, h2, h3, fun j hj => ⟨?_, (h4 j hj).2⟩⟩
  obtain ⟨⟨_, k1⟩, _, _⟩ := h
  obtain ⟨a, e, _, _, ha⟩ := h1
  rcases k1 with ⟨rfl, hn⟩ | ⟨g, cap', cur, rfl, rest⟩
  · omega
  · cases e
    rcases ha with ha | ha
    · cases ha; rfl
    · omega

structure RecS {D : Type} (k : Nat) (R : (Nat → Prop) → World → List Value → D → Prop) : Prop where
  len : ∀ {S w c d}, R S w c d → c.length = k
  one : ∀ {S w c d}, R S w c d → ∀ u ∈ c, u.oneCell' = true
  keep : ∀ {S w w' c d}, R S w c d → (∀ q, S q → w'.heap[q]? = w.heap[q]?) → R S w' c d

section
variable {D : Type} {k : Nat} {R : (Nat → Prop) → World → List Value → D → Prop}
/-- records of the call's own; what they lead to lies in blocks from C on, apart from the records' own -/
def OwnDeep (ty : TypeId) (k : Nat) (R : (Nat → Prop) → World → List Value → D → Prop) (L : Nat) (d0 : D) (C : Nat) (w : World) (v : Value) (xs : List D) : Prop :=
  ∃ vals : List (List Value), w.ownsRow C ty k v xs.length vals.flatten ∧ vals.length = xs.length ∧ xs.length ≤ L ∧
    ∀ j, j < xs.length → ∃ S : Nat → Prop, (∀ q, S q → C ≤ q ∧ q < w.heap.size ∧ v.ownBlock ≠ some q) ∧ R S w (vals.getD j []) (xs.getD j d0)
variable {ty : TypeId} {L C : Nat} {d0 : D} {w w' : World} {v : Value} {xs : List D}
theorem OwnDeep.nil : OwnDeep ty k R L d0 C w (.slice none 0 0) [] := ⟨[], World.ownsRow_nil _ _ _ _, rfl, by simp, fun j hj => by simp at hj⟩
theorem OwnDeep.lt (h : OwnDeep ty k R L d0 C w v xs) : ∀ q, v.ownBlock = some q → C ≤ q ∧ q < w.heap.size := by
  obtain ⟨vals, h1, _⟩ := h
  exact h1.lt
theorem OwnDeep.kept (hR : RecS k R) {row : Option Nat} (h : OwnDeep ty k R L d0 C w v xs) (hg : w.grownBy w' row) (hr : ∀ q, row = some q → q < C ∨ w.heap.size ≤ q) : OwnDeep ty k R L d0 C w' v xs := by
  have hlt := h.lt
  obtain ⟨vals, h1, h2, h3, h4⟩ := h
  refine ⟨vals, h1.kept hg ?_, h2, h3, fun j hj => ?_⟩
  · cases hv : v.ownBlock with
    | none => exact Or.inl rfl
    | some g =>
      right
      intro he
      have := hlt g hv
      have := hr g he.symm
      omega
  · obtain ⟨S, s1, s2⟩ := h4 j hj
    refine ⟨S, fun q hq => ⟨(s1 q hq).1, Nat.lt_of_lt_of_le (s1 q hq).2.1 hg.size, (s1 q hq).2.2⟩, hR.keep s2 fun q hq => hg.block q (s1 q hq).2.1 fun he => ?_⟩
    have := s1 q hq
    have := hr q he.symm
    omega
theorem OwnDeep.below (hR : RecS k R) (h : OwnDeep ty k R L d0 C w v xs) (hb : Below w.heap.size w w') : OwnDeep ty k R L d0 C w' v xs :=
  h.kept hR (row := none) ⟨hb.os, hb.tape, hb.output, hb.size, fun q hq _ => hb.block q hq⟩ (fun q hq => by cases hq)
theorem OwnDeep.mono {C' : Nat} (h : OwnDeep ty k R L d0 C w v xs) (hC : C' ≤ C) : OwnDeep ty k R L d0 C' w v xs := by
  obtain ⟨vals, h1, h2, h3, h4⟩ := h
  refine ⟨vals, ⟨h1.1, ?_⟩, h2, h3, fun j hj => ?_⟩
  · rcases h1.2 with hn | ⟨g, cap, cur, hv, hb, rest⟩
    · exact Or.inl hn
    · exact Or.inr ⟨g, cap, cur, hv, by omega, rest⟩
  · obtain ⟨S, s1, s2⟩ := h4 j hj
    exact ⟨S, fun q hq => ⟨by have := (s1 q hq).1; omega, (s1 q hq).2⟩, s2⟩
theorem OwnDeep.form (h : OwnDeep ty k R L d0 C w v xs) : ∃ a cap, v = .slice a xs.length cap := by
  obtain ⟨vals, h1, _⟩ := h
  rcases h1.2 with ⟨rfl, hn⟩ | ⟨g, cap, cur, rfl, rest⟩
  · exact ⟨none, 0, by rw [hn]⟩
  · exact ⟨_, cap, rfl⟩
theorem OwnDeep.form' (h : OwnDeep ty k R L d0 C w v xs) : ∃ a n cap, v = .slice a n cap := by
  obtain ⟨a, c, e⟩ := h.form
  exact ⟨a, _, c, e⟩
theorem OwnDeep.vals_len (hR : RecS k R) {vals : List (List Value)} (h2 : vals.length = xs.length) (h4 : ∀ j, j < xs.length → ∃ S : Nat → Prop, (∀ q, S q → C ≤ q ∧ q < w.heap.size ∧ v.ownBlock ≠ some q) ∧ R S w (vals.getD j []) (xs.getD j d0)) : ∀ c ∈ vals, c.length = k := by
  intro c hc
  obtain ⟨j, hj, rfl⟩ := List.getElem_of_mem hc
  obtain ⟨S, _, s2⟩ := h4 j (by omega)
  have := hR.len s2
  rw [List.getD_eq_getElem?_getD, List.getElem?_eq_getElem hj] at this
  exact this
/-- read by the relation by bounds -/
theorem OwnDeep.isRecs (hR : RecS k R) {R' : Nat → World → List Value → D → Prop} (hm : ∀ (S : Nat → Prop) c d, (∀ q, S q → q < w.heap.size) → R S w c d → R' w.heap.size w c d) (h : OwnDeep ty k R L d0 C w v xs) : IsRecs k R' L d0 w.heap.size w v xs := by
  obtain ⟨vals, ⟨hl, h1⟩, h2, h3, h4⟩ := h
  have hvl := OwnDeep.vals_len hR h2 h4
  rcases h1 with ⟨rfl, hn⟩ | ⟨g, cap, cur, rfl, hb, hg, hnc, hcm, hcs, htk⟩
  · exact ⟨0, 0, 0, ⟨none, by rw [hn], by omega, by omega, Or.inr hn⟩, h3, fun j hj => by omega⟩
  · refine ⟨g, 0, cap, ⟨some ⟨g, 0, none⟩, rfl, hnc, by unfold maxLen at hcm; omega, Or.inl rfl⟩, h3, fun j hj => ?_⟩
    obtain ⟨S, s1, s2⟩ := h4 j hj
    refine ⟨vals.getD j [], fun q u hq => ⟨(Array.getElem?_eq_some_iff.1 hg).1, ?_⟩, hm S _ _ (fun q hq => (s1 q hq).2.1) s2⟩
    have hq' : q < k := by
      have h5 := hR.len s2
      have := (List.getElem?_eq_some_iff.1 hq).1
      omega
    have hf := flat_getK hvl j q (by omega) hq'
    rw [hq] at hf
    have hlt : j * k + q < xs.length * k := by
      have : (j + 1) * k ≤ xs.length * k := Nat.mul_le_mul_right _ (by omega)
      rw [Nat.add_mul] at this
      omega
    simp only [World.cell?, hg, Nat.zero_add]
    have : (cur.toList.take (xs.length * k))[j * k + q]? = vals.flatten[j * k + q]? := by rw [htk]
    rw [List.getElem?_take, if_pos hlt, hf] at this
    simpa using this

/-- a source of records: what they lead to lies from C on, apart from block g -/
def SrcDeep (k : Nat) (R : (Nat → Prop) → World → List Value → D → Prop) (d0 : D) (C : Nat) (g : Option Nat) (w : World) (vx : Value) (ys : List D) : Prop :=
  ∃ vals : List (List Value), Src w k vx ys.length vals.flatten ∧ vals.length = ys.length ∧ ∀ j, j < ys.length → ∃ S : Nat → Prop, (∀ q, S q → C ≤ q ∧ q < w.heap.size ∧ g ≠ some q) ∧ R S w (vals.getD j []) (ys.getD j d0)
theorem srcDeep_one (hR : RecS k R) {g : Option Nat} {b c : Nat} {cs : List Value} {d : D} (hc : ∀ q u, cs[q]? = some u → w.cell? ⟨b, q, none⟩ = some u) {S : Nat → Prop} (hS : ∀ q, S q → C ≤ q ∧ q < w.heap.size ∧ g ≠ some q) (hd : R S w cs d) : SrcDeep k R d0 C g w (.slice (some ⟨b, 0, none⟩) 1 c) [d] := by
  refine ⟨[cs], ⟨_, c, rfl, by simp [hR.len hd], fun q u hu => ⟨_, rfl, ?_⟩, fun u hu => hR.one hd u (by simpa using hu)⟩, rfl, fun j hj => ?_⟩
  · rw [addP, Nat.zero_add]
    exact hc q u (by simpa using hu)
  · obtain rfl : j = 0 := by simpa using hj
    exact ⟨S, hS, hd⟩
theorem OwnDeep.src (hR : RecS k R) {C' : Nat} {g : Option Nat} (h : OwnDeep ty k R L d0 C w v xs) (hC : C' ≤ C) (hg : ∀ q, g = some q → q < C) : SrcDeep k R d0 C' g w v xs := by
  obtain ⟨vals, ⟨hl, h1⟩, h2, h3, h4⟩ := h
  have hvl := OwnDeep.vals_len hR h2 h4
  refine ⟨vals, ?_, h2, fun j hj => ?_⟩
  · rcases h1 with ⟨rfl, hn⟩ | ⟨b, cap, cur, rfl, hb, hh, hnc, hcm, hcs, htk⟩
    · obtain rfl : xs = [] := List.length_eq_zero_iff.1 hn
      obtain rfl : vals = [] := List.length_eq_zero_iff.1 h2
      exact ⟨none, 0, rfl, by simp, fun j u hu => by simp at hu, fun u hu => by simp at hu⟩
    · refine ⟨_, cap, rfl, by rw [flat_lenK hvl, h2], fun j u hu => ⟨_, rfl, ?_⟩, fun u hu => ?_⟩
      · rw [addP, Nat.zero_add]
        simp only [World.cell?, hh]
        have hlt := (List.getElem?_eq_some_iff.1 hu).1
        rw [flat_lenK hvl, h2] at hlt
        have : (cur.toList.take (xs.length * k))[j]? = vals.flatten[j]? := by rw [htk]
        rw [List.getElem?_take, if_pos hlt, hu] at this
        simpa using this
      · obtain ⟨c, hc, hu'⟩ := List.mem_flatten.1 hu
        obtain ⟨j, hj, rfl⟩ := List.getElem_of_mem hc
        obtain ⟨S, _, s2⟩ := h4 j (by omega)
        rw [List.getD_eq_getElem?_getD, List.getElem?_eq_getElem hj] at s2
        exact hR.one s2 u hu'
  · obtain ⟨S, s1, s2⟩ := h4 j hj
    exact ⟨S, fun q hq => ⟨by have := (s1 q hq).1; omega, (s1 q hq).2.1, fun he => by have := hg q he; have := (s1 q hq).1; omega⟩, s2⟩

theorem run_append_deep (hR : RecS k R) (hk : 0 < k) {bytes : Nat} {zero : Value} {t : TypeId} (hinfo : (Tryz.prog.info? ty).map (fun i => (i.zero, i.size, i.bytes)) = some (some zero, k, bytes)) (ht : Tryz.prog.underlying t = some (.slice ty)) (hzs : zero.cells.size = k) (hLb : L * bytes ≤ 140737488355328) (hLm : L ≤ maxLen)
    {vx : Value} {ys : List D} {oty : TypeId} (hown : OwnDeep ty k R L d0 C w v xs) (hs : SrcDeep k R d0 C v.ownBlock w vx ys) (hlen : xs.length + ys.length ≤ L) (hC : C ≤ w.heap.size) :
    ∃ v' w', (Builtin.append_ #[t, t] oty #[v, vx]).run Tryz.prog w = .ok v' w' ∧ OwnDeep ty k R L d0 C w' v' (xs ++ ys) ∧ w.grownBy w' v.ownBlock ∧ (v'.ownBlock = v.ownBlock ∨ v'.ownBlock = some w.heap.size) := by
  obtain ⟨i0, hi, hz0, hz1, hz2⟩ := info_parts hinfo
  obtain ⟨vals, o1, o2, o3, o4⟩ := hown
  obtain ⟨news, s1, s2, s3⟩ := hs
  obtain ⟨v', w', h1, h2, h3, h4⟩ := run_append_gen (P := Tryz.prog) w C t oty ty i0 _ k bytes ht hi hz0 hz1 hz2 hzs hk v xs.length _ o1 vx ys.length _ s1 (by omega) (Nat.le_trans (Nat.mul_le_mul_right _ hlen) hLb) hC
  have hne : ∀ S : Nat → Prop, (∀ q, S q → C ≤ q ∧ q < w.heap.size ∧ v.ownBlock ≠ some q) → ∀ q, S q → C ≤ q ∧ q < w'.heap.size ∧ v'.ownBlock ≠ some q := fun S hS q hq => by
    obtain ⟨q1, q2, q3⟩ := hS q hq
    refine ⟨q1, Nat.lt_of_lt_of_le q2 h3.size, fun he => ?_⟩
    rcases h4 with h4 | h4
    · exact q3 (h4.symm.trans he)
    · rw [h4] at he
      injection he with he
      omega
  have hkp : ∀ S : Nat → Prop, (∀ q, S q → C ≤ q ∧ q < w.heap.size ∧ v.ownBlock ≠ some q) → ∀ q, S q → w'.heap[q]? = w.heap[q]? := fun S hS q hq => h3.block q (hS q hq).2.1 (fun he => (hS q hq).2.2 he.symm)
  refine ⟨v', w', h1, ⟨vals ++ news, by rw [List.flatten_append]; simpa using h2, by simp [o2, s2], by simpa using hlen, fun j hj => ?_⟩, h3, h4⟩
  by_cases e : j < xs.length
  · have e1 : (vals ++ news).getD j [] = vals.getD j [] := by rw [List.getD_eq_getElem?_getD, List.getD_eq_getElem?_getD, List.getElem?_append_left (by omega)]
    have e2 : (xs ++ ys).getD j d0 = xs.getD j d0 := by rw [List.getD_eq_getElem?_getD, List.getD_eq_getElem?_getD, List.getElem?_append_left e]
    rw [e1, e2]
    obtain ⟨S, t1, t2⟩ := o4 j e
    exact ⟨S, hne S t1, hR.keep t2 (hkp S t1)⟩
  · have e1 : (vals ++ news).getD j [] = news.getD (j - xs.length) [] := by rw [List.getD_eq_getElem?_getD, List.getD_eq_getElem?_getD, List.getElem?_append_right (by omega), o2]
    have e2 : (xs ++ ys).getD j d0 = ys.getD (j - xs.length) d0 := by rw [List.getD_eq_getElem?_getD, List.getD_eq_getElem?_getD, List.getElem?_append_right (by omega)]
    rw [e1, e2]
    obtain ⟨S, t1, t2⟩ := s3 (j - xs.length) (by simp at hj; omega)
    exact ⟨S, hne S t1, hR.keep t2 (hkp S t1)⟩
theorem append_deepA (hR : RecS k R) (hk : 0 < k) {bytes : Nat} {zero : Value} {t : TypeId} (hinfo : (Tryz.prog.info? ty).map (fun i => (i.zero, i.size, i.bytes)) = some (some zero, k, bytes)) (ht : Tryz.prog.underlying t = some (.slice ty)) (hzs : zero.cells.size = k) (hLb : L * bytes ≤ 140737488355328) (hLm : L ≤ maxLen)
    {ops : Array Oper} {rest : List Oper} {o : Oper} {a : Act} {Q : Exit → Act → World → Prop} (hgd : o.guard = none) (s x : Operand)
    (ho : o.op = .call { callee := .builtin .append, args := #[s, x], argTypes := #[t, t] })
    {vx : Value} {ys : List D} (hs : a.eval s = v) (hown : OwnDeep ty k R L d0 C w v xs) (hx : a.eval x = vx) (hsrc : SrcDeep k R d0 C v.ownBlock w vx ys) (hlen : xs.length + ys.length ≤ L) (hC : C ≤ w.heap.size)
    (h : ∀ v' w', OwnDeep ty k R L d0 C w' v' (xs ++ ys) → w.grownBy w' v.ownBlock → (v'.ownBlock = v.ownBlock ∨ v'.ownBlock = some w.heap.size) → wpList Tryz.prog ops Q rest (a.put o.dst v') w') : wpList Tryz.prog ops Q (o :: rest) a w := by
  refine wpList_plain hgd fun K hK => ?_
  obtain ⟨v', w', h1, h2, h3, h4⟩ := run_append_deep hR hk hinfo ht hzs hLb hLm (oty := o.type) hown hsrc hlen hC
  exact wp_of_append w ho hs hx h1 (hK _ _ (h v' w' h2 h3 h4))
end
end Go.Proofs.YtfnmidddgjlipaaGreatDoor
