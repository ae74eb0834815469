/-
  Lists of records in memory, for any kind of record: k cells each, read by a relation R that lasts.
-/
import Derived.Test.YtfnmidddgjlipaaGreatDoorBas
import Derived.Test.YtfnmidddgjlipaaGreatDoorProg
import Derived.Deep.Slices
set_option linter.unusedVariables false
set_option linter.unusedSimpArgs false
namespace Go.Proofs.YtfnmidddgjlipaaGreatDoor
open Go.RowKit

structure RecK {D : Type} (k : Nat) (R : Nat → World → List Value → D → Prop) : Prop where
  len : ∀ {B w c d}, R B w c d → c.length = k
  one : ∀ {B w c d}, R B w c d → ∀ u ∈ c, u.oneCell' = true
  below : ∀ {B B' w w' c d}, R B w c d → Below B' w w' → B ≤ B' → R B w' c d
  mono : ∀ {B B' w c d}, R B w c d → B ≤ B' → R B' w c d

section
variable {D : Type} {k : Nat} {R : Nat → World → List Value → D → Prop}

/-- v reads as the records xs: cells in block b < B -/
def IsRecs (k : Nat) (R : Nat → World → List Value → D → Prop) (L : Nat) (d0 : D) (B : Nat) (w : World) (v : Value) (xs : List D) : Prop :=
  ∃ b off cap, SliceV v xs.length b off cap ∧ xs.length ≤ L ∧ ∀ j, j < xs.length → ∃ c, (∀ q u, c[q]? = some u → CellB B w b (off + j * k + q) u) ∧ R B w c (xs.getD j d0)
theorem IsRecs.below (hR : RecK k R) {L B B' : Nat} {d0 : D} {w w' : World} {v : Value} {xs : List D} (h : IsRecs k R L d0 B w v xs) (hb : Below B' w w') (hB : B ≤ B') : IsRecs k R L d0 B w' v xs := by
  obtain ⟨b, off, cap, h1, h2, h3⟩ := h
  refine ⟨b, off, cap, h1, h2, fun j hj => ?_⟩
  obtain ⟨c, c1, c2⟩ := h3 j hj
  exact ⟨c, fun q u hq => (c1 q u hq).below hb hB, hR.below c2 hb hB⟩
theorem IsRecs.mono (hR : RecK k R) {L B B' : Nat} {d0 : D} {w : World} {v : Value} {xs : List D} (h : IsRecs k R L d0 B w v xs) (hB : B ≤ B') : IsRecs k R L d0 B' w v xs := by
  obtain ⟨b, off, cap, h1, h2, h3⟩ := h
  refine ⟨b, off, cap, h1, h2, fun j hj => ?_⟩
  obtain ⟨c, c1, c2⟩ := h3 j hj
  exact ⟨c, fun q u hq => (c1 q u hq).mono hB, hR.mono c2 hB⟩
theorem IsRecs.form {L B : Nat} {d0 : D} {w : World} {v : Value} {xs : List D} (h : IsRecs k R L d0 B w v xs) : ∃ a c, v = .slice a xs.length c ∧ xs.length ≤ c ∧ c ≤ 9223372036854775807 ∧ xs.length ≤ L := by
  obtain ⟨b, off, cap, ⟨a, rfl, h2, h3, h4⟩, h5, _⟩ := h
  exact ⟨a, cap, rfl, h2, h3, h5⟩
theorem IsRecs.cells (hR : RecK k R) {L B : Nat} {d0 : D} {w : World} {a : Option Addr} {c : Nat} {xs : List D} (h : IsRecs k R L d0 B w (.slice a xs.length c) xs) (hk : 0 < k) {j : Nat} (hj : j < xs.length) :
    ∃ b off cs, a = some ⟨b, off, none⟩ ∧ b < B ∧ R B w cs (xs.getD j d0) ∧ ∀ q u, cs[q]? = some u → w.cell? ⟨b, off + j * k + q, none⟩ = some u := by
  obtain ⟨b, off, cap, ⟨a', he, h2, h3, h4⟩, h5, h6⟩ := h
  cases he
  obtain ⟨cs, c1, c2⟩ := h6 j hj
  have hl := hR.len c2
  have h0 : b < B := by
    match cs, hl with
    | u :: r, hl => exact (c1 0 u rfl).1
    | [], hl => simp at hl; omega
  refine ⟨b, off, cs, ?_, h0, c2, fun q u hq => (c1 q u hq).2⟩
  rcases h4 with h4 | h4
  · exact h4
  · omega
theorem IsRecs.nil {L B : Nat} {d0 : D} {w : World} : IsRecs k R L d0 B w (.slice none 0 0) [] := ⟨0, 0, 0, ⟨none, rfl, Nat.le_refl _, by omega, Or.inr rfl⟩, by simp, fun j hj => by simp at hj⟩

theorem flat_lenK {vals : List (List Value)} (h : ∀ c ∈ vals, c.length = k) : vals.flatten.length = vals.length * k := by
  induction vals with
  | nil => simp
  | cons c r ih =>
    have h1 := h c (by simp)
    have h2 := ih (fun x hx => h x (by simp [hx]))
    simp only [List.flatten_cons, List.length_append, List.length_cons, h1, h2, Nat.add_mul]
    omega
theorem flat_getK : ∀ {vals : List (List Value)}, (∀ c ∈ vals, c.length = k) → ∀ j q, j < vals.length → q < k → vals.flatten[j * k + q]? = (vals.getD j [])[q]?
  | c :: r, h, 0, q, _, hq => by
    have h1 := h c (by simp)
    simp only [List.flatten_cons, Nat.zero_mul, Nat.zero_add]
    rw [List.getElem?_append_left (by omega)]
    rfl
  | c :: r, h, j + 1, q, hj, hq => by
    have h1 := h c (by simp)
    have ih := flat_getK (vals := r) (fun x hx => h x (by simp [hx])) j q (by simpa using hj) hq
    rw [List.flatten_cons, List.getElem?_append_right (by rw [h1, Nat.add_mul]; omega), h1]
    rw [show (j + 1) * k + q - k = j * k + q by rw [Nat.add_mul]; omega, ih]
    rfl

/-- records of the call's own -/
def OwnRecs (ty : TypeId) (k : Nat) (R : Nat → World → List Value → D → Prop) (L : Nat) (d0 : D) (C : Nat) (w : World) (v : Value) (xs : List D) : Prop :=
  ∃ vals : List (List Value), w.ownsRow C ty k v xs.length vals.flatten ∧ vals.length = xs.length ∧ xs.length ≤ L ∧ ∀ j, j < xs.length → R C w (vals.getD j []) (xs.getD j d0)
variable {ty : TypeId} {L C : Nat} {d0 : D} {w w' : World} {v : Value} {xs : List D}
theorem OwnRecs.nil : OwnRecs ty k R L d0 C w (.slice none 0 0) [] := ⟨[], World.ownsRow_nil _ _ _ _, rfl, by simp, fun j hj => by simp at hj⟩
theorem OwnRecs.made {n : Nat} (hn : n = w.heap.size) (hC : C ≤ w.heap.size) : OwnRecs ty k R L d0 C (w.alloc (.cells #[] ty)) (.slice (some ⟨n, 0, none⟩) 0 0) [] := by
  subst hn
  exact ⟨[], World.ownsRow_made w #[] 0 hC (by simp) (by simp), rfl, by simp, fun j hj => by simp at hj⟩
theorem OwnRecs.kept (hR : RecK k R) {row : Option Nat} (h : OwnRecs ty k R L d0 C w v xs) (hg : w.grownBy w' row) (hr : ∀ q, row = some q → C ≤ q) (hC : C ≤ w.heap.size) (hne : v.ownBlock = none ∨ v.ownBlock ≠ row) : OwnRecs ty k R L d0 C w' v xs := by
  obtain ⟨vals, h1, h2, h3, h4⟩ := h
  have hb : Below C w w' := (Below.refl C w).grown hg hC hr
  exact ⟨vals, h1.kept hg hne, h2, h3, fun j hj => hR.below (h4 j hj) hb (Nat.le_refl _)⟩
theorem OwnRecs.below (hR : RecK k R) (h : OwnRecs ty k R L d0 C w v xs) (hb : Below w.heap.size w w') (hC : C ≤ w.heap.size) : OwnRecs ty k R L d0 C w' v xs :=
  h.kept hR (row := none) ⟨hb.os, hb.tape, hb.output, hb.size, fun q hq _ => hb.block q hq⟩ (fun q hq => by cases hq) hC (by cases hv : v.ownBlock <;> simp)
theorem OwnRecs.form (h : OwnRecs ty k R L d0 C w v xs) : ∃ a cap, v = .slice a xs.length cap := by
  obtain ⟨vals, h1, _⟩ := h
  rcases h1.2 with ⟨rfl, hn⟩ | ⟨g, cap, cur, rfl, rest⟩
  · exact ⟨none, 0, by rw [hn]⟩
  · exact ⟨_, cap, rfl⟩
theorem OwnRecs.form' (h : OwnRecs ty k R L d0 C w v xs) : ∃ a n cap, v = .slice a n cap := by
  obtain ⟨a, c, e⟩ := h.form
  exact ⟨a, _, c, e⟩
theorem OwnRecs.lt (h : OwnRecs ty k R L d0 C w v xs) : ∀ q, v.ownBlock = some q → C ≤ q ∧ q < w.heap.size := by
  obtain ⟨vals, h1, _⟩ := h
  exact h1.lt
theorem OwnRecs.vals_len (hR : RecK k R) {vals : List (List Value)} (h2 : vals.length = xs.length) (h4 : ∀ j, j < xs.length → R C w (vals.getD j []) (xs.getD j d0)) : ∀ c ∈ vals, c.length = k := by
  intro c hc
  obtain ⟨j, hj, rfl⟩ := List.getElem_of_mem hc
  have := hR.len (h4 j (by omega))
  rw [List.getD_eq_getElem?_getD, List.getElem?_eq_getElem hj] at this
  exact this
theorem OwnRecs.isRecs (hR : RecK k R) (h : OwnRecs ty k R L d0 C w v xs) (hC : C ≤ w.heap.size) : IsRecs k R L d0 w.heap.size w v xs := by
  obtain ⟨vals, ⟨hl, h1⟩, h2, h3, h4⟩ := h
  have hvl := OwnRecs.vals_len hR h2 h4
  rcases h1 with ⟨rfl, hn⟩ | ⟨g, cap, cur, rfl, hb, hg, hnc, hcm, hcs, htk⟩
  · exact ⟨0, 0, 0, ⟨none, by rw [hn], by omega, by omega, Or.inr hn⟩, h3, fun j hj => by omega⟩
  · refine ⟨g, 0, cap, ⟨some ⟨g, 0, none⟩, rfl, hnc, by unfold maxLen at hcm; omega, Or.inl rfl⟩, h3, fun j hj => ⟨vals.getD j [], fun q u hq => ⟨(Array.getElem?_eq_some_iff.1 hg).1, ?_⟩, hR.mono (h4 j hj) hC⟩⟩
    have hq' : q < k := by
      have h5 := hR.len (h4 j hj)
      have := (List.getElem?_eq_some_iff.1 hq).1
      omega
    have hf := flat_getK hvl j q (by omega) hq'
    rw [hq] at hf
    have hlt : j * k + q < xs.length * k := by
      have : (j + 1) * k ≤ xs.length * k := Nat.mul_le_mul_right _ (by omega)
      rw [Nat.add_mul] at this
      omega
    simp only [World.cell?, hg, Nat.zero_add]
    have : (cur.toList.take (xs.length * k))[j * k + q]? = vals.flatten[j * k + q]? := by rw [htk]
    rw [List.getElem?_take, if_pos hlt, hf] at this
    simpa using this

/-- a source of records that lie below C -/
def SrcRecs (k : Nat) (R : Nat → World → List Value → D → Prop) (d0 : D) (C : Nat) (w : World) (vx : Value) (ys : List D) : Prop :=
  ∃ vals : List (List Value), Src w k vx ys.length vals.flatten ∧ vals.length = ys.length ∧ ∀ j, j < ys.length → R C w (vals.getD j []) (ys.getD j d0)
theorem addP (b o j : Nat) : (⟨b, o, none⟩ : Addr).add j = ⟨b, o + j, none⟩ := by unfold Addr.add; split <;> simp_all
theorem srcRecs_one (hR : RecK k R) {g c : Nat} {cs : List Value} {d : D} (hc : ∀ q u, cs[q]? = some u → w.cell? ⟨g, q, none⟩ = some u) (hd : R C w cs d) : SrcRecs k R d0 C w (.slice (some ⟨g, 0, none⟩) 1 c) [d] := by
  refine ⟨[cs], ⟨_, c, rfl, by simp [hR.len hd], fun q u hu => ⟨_, rfl, ?_⟩, fun u hu => hR.one hd u (by simpa using hu)⟩, rfl, fun j hj => ?_⟩
  · rw [addP, Nat.zero_add]
    exact hc q u (by simpa using hu)
  · obtain rfl : j = 0 := by simpa using hj
    exact hd
theorem flat_idxK (hk : 0 < k) {vals : List (List Value)} (h : ∀ c ∈ vals, c.length = k) {q : Nat} {u : Value} (hu : vals.flatten[q]? = some u) : q / k < vals.length ∧ q % k < k ∧ (vals.getD (q / k) [])[q % k]? = some u := by
  have hq := (List.getElem?_eq_some_iff.1 hu).1
  rw [flat_lenK h] at hq
  have h1 : q / k < vals.length := Nat.div_lt_of_lt_mul (by rw [Nat.mul_comm]; exact hq)
  have h2 : q % k < k := Nat.mod_lt _ hk
  refine ⟨h1, h2, ?_⟩
  rw [← flat_getK h _ _ h1 h2]
  rw [show q / k * k + q % k = q by rw [Nat.mul_comm]; exact Nat.div_add_mod q k]
  exact hu
theorem IsRecs.src (hR : RecK k R) (hk : 0 < k) {B : Nat} (h : IsRecs k R L d0 B w v xs) (hB : B ≤ C) : SrcRecs k R d0 C w v xs := by
  obtain ⟨b, off, cap, ⟨ad, rfl, hcap, hmax, ha⟩, hl, hc⟩ := h
  obtain ⟨f, hf⟩ := Go.Deep.choose_lt (α := List Value) (n := xs.length) (p := fun j c => (∀ q u, c[q]? = some u → CellB B w b (off + j * k + q) u) ∧ R B w c (xs.getD j d0)) (fun j hj => hc j hj)
  have hvl : ((List.range xs.length).map f).length = xs.length := by simp
  have hat : ∀ j, j < xs.length → ((List.range xs.length).map f).getD j [] = f j := fun j hj => by
    rw [List.getD_eq_getElem?_getD]
    simp [hj]
  have hlen : ∀ c ∈ (List.range xs.length).map f, c.length = k := by
    intro c hc
    obtain ⟨j, hj, rfl⟩ := List.mem_map.1 hc
    exact hR.len (hf j (List.mem_range.1 hj)).2
  refine ⟨(List.range xs.length).map f, ⟨ad, cap, rfl, by rw [flat_lenK hlen, hvl], fun q u hu => ?_, fun u hu => ?_⟩, hvl, fun j hj => by rw [hat j hj]; exact hR.mono (hf j hj).2 hB⟩
  · obtain ⟨h1, h2, h3⟩ := flat_idxK hk hlen hu
    rw [hvl] at h1
    rw [hat _ h1] at h3
    obtain rfl : ad = some ⟨b, off, none⟩ := by
      rcases ha with ha | ha
      · exact ha
      · rw [ha] at h1; exact absurd h1 (Nat.not_lt_zero _)
    refine ⟨_, rfl, ?_⟩
    rw [addP]
    have := ((hf _ h1).1 _ _ h3).2
    rw [show off + q / k * k + q % k = off + q by rw [Nat.add_assoc, Nat.mul_comm, Nat.div_add_mod q k]] at this
    exact this
  · obtain ⟨q, hq⟩ := List.getElem?_of_mem hu
    obtain ⟨h1, h2, h3⟩ := flat_idxK hk hlen hq
    rw [hvl] at h1
    rw [hat _ h1] at h3
    exact hR.one (hf _ h1).2 u (List.mem_of_getElem? h3)

theorem run_append_recs (hR : RecK k R) (hk : 0 < k) {bytes : Nat} {zero : Value} {t : TypeId} (hinfo : (Tryz.prog.info? ty).map (fun i => (i.zero, i.size, i.bytes)) = some (some zero, k, bytes)) (ht : Tryz.prog.underlying t = some (.slice ty)) (hzs : zero.cells.size = k) (hLb : L * bytes ≤ 140737488355328) (hLm : L ≤ maxLen)
    {vx : Value} {ys : List D} {oty : TypeId} (hown : OwnRecs ty k R L d0 C w v xs) (hs : SrcRecs k R d0 C w vx ys) (hlen : xs.length + ys.length ≤ L) (hC : C ≤ w.heap.size) :
    ∃ v' w', (Builtin.append_ #[t, t] oty #[v, vx]).run Tryz.prog w = .ok v' w' ∧ OwnRecs ty k R L d0 C w' v' (xs ++ ys) ∧ w.grownBy w' v.ownBlock ∧ (v'.ownBlock = v.ownBlock ∨ v'.ownBlock = some w.heap.size) := by
  obtain ⟨i0, hi, hz0, hz1, hz2⟩ := info_parts hinfo
  obtain ⟨vals, o1, o2, o3, o4⟩ := hown
  obtain ⟨news, s1, s2, s3⟩ := hs
  obtain ⟨v', w', h1, h2, h3, h4⟩ := run_append_gen (P := Tryz.prog) w C t oty ty i0 _ k bytes ht hi hz0 hz1 hz2 hzs hk v xs.length _ o1 vx ys.length _ s1 (by omega) (Nat.le_trans (Nat.mul_le_mul_right _ hlen) hLb) hC
  have hb : Below C w w' := (Below.refl C w).grown h3 hC (fun q hq => (o1.lt q hq).1)
  refine ⟨v', w', h1, ⟨vals ++ news, by rw [List.flatten_append]; simpa using h2, by simp [o2, s2], by simpa using hlen, fun j hj => ?_⟩, h3, h4⟩
  by_cases e : j < xs.length
  · have e1 : (vals ++ news).getD j [] = vals.getD j [] := by rw [List.getD_eq_getElem?_getD, List.getD_eq_getElem?_getD, List.getElem?_append_left (by omega)]
    have e2 : (xs ++ ys).getD j d0 = xs.getD j d0 := by rw [List.getD_eq_getElem?_getD, List.getD_eq_getElem?_getD, List.getElem?_append_left e]
    rw [e1, e2]
    exact hR.below (o4 j e) hb (Nat.le_refl _)
  · have e1 : (vals ++ news).getD j [] = news.getD (j - xs.length) [] := by rw [List.getD_eq_getElem?_getD, List.getD_eq_getElem?_getD, List.getElem?_append_right (by omega), o2]
    have e2 : (xs ++ ys).getD j d0 = ys.getD (j - xs.length) d0 := by rw [List.getD_eq_getElem?_getD, List.getD_eq_getElem?_getD, List.getElem?_append_right (by omega)]
    rw [e1, e2]
    exact hR.below (s3 (j - xs.length) (by simp at hj; omega)) hb (Nat.le_refl _)
theorem append_recsA (hR : RecK k R) (hk : 0 < k) {bytes : Nat} {zero : Value} {t : TypeId} (hinfo : (Tryz.prog.info? ty).map (fun i => (i.zero, i.size, i.bytes)) = some (some zero, k, bytes)) (ht : Tryz.prog.underlying t = some (.slice ty)) (hzs : zero.cells.size = k) (hLb : L * bytes ≤ 140737488355328) (hLm : L ≤ maxLen)
    {ops : Array Oper} {rest : List Oper} {o : Oper} {a : Act} {Q : Exit → Act → World → Prop} (hgd : o.guard = none) (s x : Operand)
    (ho : o.op = .call { callee := .builtin .append, args := #[s, x], argTypes := #[t, t] })
    {vx : Value} {ys : List D} (hs : a.eval s = v) (hown : OwnRecs ty k R L d0 C w v xs) (hx : a.eval x = vx) (hsrc : SrcRecs k R d0 C w vx ys) (hlen : xs.length + ys.length ≤ L) (hC : C ≤ w.heap.size)
    (h : ∀ v' w', OwnRecs ty k R L d0 C w' v' (xs ++ ys) → w.grownBy w' v.ownBlock → (v'.ownBlock = v.ownBlock ∨ v'.ownBlock = some w.heap.size) → wpList Tryz.prog ops Q rest (a.put o.dst v') w') : wpList Tryz.prog ops Q (o :: rest) a w := by
  refine wpList_plain hgd fun K hK => ?_
  obtain ⟨v', w', h1, h2, h3, h4⟩ := run_append_recs hR hk hinfo ht hzs hLb hLm (oty := o.type) hown hsrc hlen hC
  exact wp_of_append w ho hs hx h1 (hK _ _ (h v' w' h2 h3 h4))
end
end Go.Proofs.YtfnmidddgjlipaaGreatDoor
