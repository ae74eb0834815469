/-
  Maps whose keys are of type int, as lists of pairs in the order of their making.
-/
import Derived.Test.YtndcbnnbgedgcaaLib
import Derived.MapKept
import Derived.RangeFuncRecord
import Derived.Maps.OwnOps
import Derived.Maps.OwnSet
set_option linter.unusedVariables false
set_option linter.unusedSimpArgs false
namespace Go.Proofs.Ytndcbnnbgedgcaa
open Go.RowKit Go.MapKept

abbrev AL := List (Int × Value)
def alook : AL → Int → Option Value
  | [], _ => none
  | (k, v) :: r, x => if k = x then some v else alook r x
def aset : AL → Int → Value → AL
  | [], x, v => [(x, v)]
  | (k, u) :: r, x, v => if k = x then (k, v) :: r else (k, u) :: aset r x v
def adel : AL → Int → AL
  | [], _ => []
  | (k, u) :: r, x => if k = x then r else (k, u) :: adel r x

theorem alook_aset (l : AL) (x y : Int) (v : Value) : alook (aset l x v) y = if y = x then some v else alook l y := by
  induction l with
  | nil => simp only [aset, alook]; by_cases h : x = y <;> simp [h, eq_comm]
  | cons p r ih =>
    obtain ⟨k, u⟩ := p
    simp only [aset]
    by_cases hk : k = x
    · subst hk
      simp only [if_true, alook]
      by_cases hy : k = y
      · subst hy; simp
      · rw [if_neg hy, if_neg hy, if_neg (fun e => hy e.symm)]
    · rw [if_neg hk]
      simp only [alook, ih]
      by_cases hy : k = y
      · subst hy; rw [if_pos rfl, if_pos rfl, if_neg hk]
      · rw [if_neg hy, if_neg hy]
theorem mem_aset_key {l : AL} {x y : Int} {v : Value} : y ∈ (aset l x v).map (·.1) ↔ y = x ∨ y ∈ l.map (·.1) := by
  induction l with
  | nil => simp [aset]
  | cons p r ih =>
    obtain ⟨k, u⟩ := p
    simp only [aset]
    by_cases hk : k = x
    · subst hk; simp
    · rw [if_neg hk]
      simp only [List.map_cons, List.mem_cons, ih]
      constructor
      · rintro (h | h | h)
        · exact Or.inr (Or.inl h)
        · exact Or.inl h
        · exact Or.inr (Or.inr h)
      · rintro (h | h | h)
        · exact Or.inr (Or.inl h)
        · exact Or.inl h
        · exact Or.inr (Or.inr h)
theorem nodup_aset {l : AL} (h : (l.map (·.1)).Nodup) (x : Int) (v : Value) : ((aset l x v).map (·.1)).Nodup := by
  induction l with
  | nil => simp [aset]
  | cons p r ih =>
    obtain ⟨k, u⟩ := p
    simp only [List.map_cons, List.nodup_cons] at h
    simp only [aset]
    by_cases hk : k = x
    · rw [if_pos hk]; simpa using h
    · rw [if_neg hk]
      simp only [List.map_cons, List.nodup_cons]
      refine ⟨fun hm => ?_, ih h.2⟩
      rcases mem_aset_key.1 hm with e | e
      · exact hk e
      · exact h.1 e

/-- block r is a map that holds the pairs l -/
def IntMap (w : World) (r : Nat) (l : AL) : Prop :=
  ∃ es c, w.heap[r]? = some (.map es c) ∧ Stamped es c ∧ es.toList.map (fun e => (e.key, e.val)) = l.map (fun p => (Value.int .i64 p.1, p.2))

theorem IntMap.lt {w : World} {r : Nat} {l : AL} (h : IntMap w r l) : r < w.heap.size := by
  obtain ⟨es, c, h1, _⟩ := h
  exact (Array.getElem?_eq_some_iff.1 h1).1
theorem IntMap.below {B r : Nat} {w w' : World} {l : AL} (h : IntMap w r l) (hb : Below B w w') (hr : r < B) : IntMap w' r l := by
  obtain ⟨es, c, h1, h2⟩ := h
  exact ⟨es, c, (hb.block r hr).trans h1, h2⟩
theorem IntMap.ext {r : Nat} {w w' : World} {l : AL} (h : IntMap w r l) (hb : Below w.heap.size w w') : IntMap w' r l := h.below hb h.lt
theorem IntMap.alloc {r : Nat} {w : World} {l : AL} (h : IntMap w r l) (o : Obj) : IntMap (w.alloc o) r l := h.ext ((Below.refl _ _).alloc (Nat.le_refl _) o)
theorem IntMap.setCell {r : Nat} {w : World} {l : AL} (h : IntMap w r l) (a : Addr) (v : Value) (hne : r ≠ a.block) : IntMap (w.setCell a v) r l := by
  obtain ⟨es, c, h1, h2⟩ := h
  exact ⟨es, c, (Below.heap_setCell w a v r hne).trans h1, h2⟩
theorem IntMap.made (w : World) : IntMap (w.alloc (.map #[] 0)) w.heap.size [] :=
  ⟨#[], 0, heap_alloc_new w _, stamped_empty 0, rfl⟩
theorem IntMap.drewN {r : Nat} {w : World} {l : AL} (h : IntMap w r l) (n : Nat) : IntMap (w.drewN n) r l := h

theorem keys_ints {es : List MapEntry} {l : AL} (h : es.map (fun e => (e.key, e.val)) = l.map (fun p => (Value.int .i64 p.1, p.2))) : ∀ e ∈ es, IsKey (.int .i64) e.key := by
  intro e he
  have : (e.key, e.val) ∈ l.map (fun p => (Value.int .i64 p.1, p.2)) := by rw [← h]; exact List.mem_map_of_mem he
  obtain ⟨p, _, hp⟩ := List.mem_map.1 this
  simp only [Prod.mk.injEq] at hp
  rw [← hp.1]
  rfl

theorem findNow_ints : ∀ (es : List MapEntry) (l : AL) (i : Nat) (x : Int), es.map (fun e => (e.key, e.val)) = l.map (fun p => (Value.int .i64 p.1, p.2)) →
    (alook l x = none ∧ Instr.findNow (.int .i64) (.int .i64 x) es i = some none ∧ (∀ e ∈ es, e.key ≠ .int .i64 x)) ∨
    ∃ j v, alook l x = some v ∧ Instr.findNow (.int .i64) (.int .i64 x) es i = some (some (i + j, v)) ∧ (∃ e, es[j]? = some e ∧ e.key = .int .i64 x) ∧
      ∀ u, (es.modify j fun e => { e with key := .int .i64 x, val := u }).map (fun e => (e.key, e.val)) = (aset l x u).map (fun p => (Value.int .i64 p.1, p.2))
  | [], [], i, x, _ => Or.inl ⟨rfl, rfl, by simp⟩
  | [], p :: l, i, x, h => by simp at h
  | e :: es, [], i, x, h => by simp at h
  | e :: es, (k, v) :: l, i, x, h => by
    simp only [List.map_cons, List.cons.injEq, Prod.mk.injEq] at h
    obtain ⟨⟨hk, hv⟩, ht⟩ := h
    by_cases hx : k = x
    · subst hx
      refine Or.inr ⟨0, v, by simp [alook], ?_, ⟨e, rfl, hk⟩, fun u => ?_⟩
      · simp [Instr.findNow, Instr.sameNow, hk, hv]
      · simp [aset, List.modify, ht]
    · have hsame : Instr.sameNow (.int .i64) (.int .i64 x) e.key = some false := by
        rw [hk]; simp [Instr.sameNow]; intro h'; exact hx h'.symm
      rcases findNow_ints es l (i + 1) x ht with ⟨h1, h2, h3⟩ | ⟨j, u, h1, h2, h3, h4⟩
      · refine Or.inl ⟨by simp [alook, hx, h1], by simp [Instr.findNow, hsame, h2], ?_⟩
        intro e' he'
        rcases List.mem_cons.1 he' with rfl | he'
        · rw [hk]; simpa using hx
        · exact h3 e' he'
      · refine Or.inr ⟨j + 1, u, by simp [alook, hx, h1], by simp [Instr.findNow, hsame, h2]; omega, by simpa using h3, fun u' => ?_⟩
        have := h4 u'
        simp only [List.modify_succ_cons, List.map_cons, hk, hv, this, aset, if_neg hx]

section
variable {P : Program} {w : World} {T K E : TypeId} {r : Nat} {l : AL}

/-- m[x], v, ok := m[x] -/
theorem run_lookup_ints (hT : P.underlying T = some (.map K E)) (hK : P.underlying K = some (.int .i64)) {z : Value} (hz : (zeroValue E).run P w = .ok z w) (h : IntMap w r l) (x : Int) (ok : Bool) :
    (Instr.lookup T (.map (some r)) (.int .i64 x) ok).run P w = .ok (if ok then .tuple #[(alook l x).getD z, .bool (alook l x).isSome] else (alook l x).getD z) w := by
  obtain ⟨es, c, h1, h2, h3⟩ := h
  have hk : IsKey (.int .i64) (.int .i64 x) := rfl
  have hck : (Instr.checkKey es.isEmpty 10000 K (.int .i64 x)).run P w = .ok () w := run_checkKey hK hk es.isEmpty 9999
  have hg : (getObj r).run P w = .ok (.map es c) w := MapKept.run_getObj_map h1
  unfold Instr.lookup
  rcases findNow_ints es.toList l 0 x h3 with ⟨q1, q2, _⟩ | ⟨j, v, q1, q2, _⟩
  · have hf := run_findKey (P := P) (w := w) hK q2
    simp [run_underlying hT, Result.andThen, hg, hck, hf, hz, q1]
  · have hf := run_findKey (P := P) (w := w) hK q2
    simp [run_underlying hT, Result.andThen, hg, hck, hf, q1]

/-- m[x] = v -/
theorem run_update_ints (hT : P.underlying T = some (.map K E)) (hK : P.underlying K = some (.int .i64)) (h : IntMap w r l) (x : Int) (v : Value) :
    ∃ w', (Instr.mapUpdate T (.map (some r)) (.int .i64 x) v).run P w = .ok () w' ∧ IntMap w' r (aset l x v) ∧ w.grownBy w' (some r) ∧ w'.heap.size = w.heap.size := by
  obtain ⟨es, c, h1, h2, h3⟩ := h
  have hk : IsKey (.int .i64) (.int .i64 x) := rfl
  have hck : (Instr.checkKey false 10000 K (.int .i64 x)).run P w = .ok () w := run_checkKey hK hk false 9999
  have hg : (getObj r).run P w = .ok (.map es c) w := MapKept.run_getObj_map h1
  have keep : ∀ o : Obj, w.grownBy { w with heap := w.heap.setIfInBounds r o } (some r) := fun o =>
    ⟨rfl, rfl, rfl, by simp, fun k hk' hne => by simp only [Array.getElem?_setIfInBounds]; rw [if_neg (fun e => hne (by rw [e]))]⟩
  unfold Instr.mapUpdate
  rcases findNow_ints es.toList l 0 x h3 with ⟨q1, q2, q3⟩ | ⟨j, u, q1, q2, ⟨e, he, hek⟩, q4⟩
  · have hf := run_findKey (P := P) (w := w) hK q2
    have hset := run_setObj_map (P := P) (.map (es.push { key := .int .i64 x, val := v, born := c }) (c + 1)) h1
    refine ⟨_, by simp [run_underlying hT, Result.andThen, hg, hck, hf, hset]; rfl, ⟨_, _, (heap_set h1).1, stamped_push h2 q3, ?_⟩, keep _, by simp⟩
    have haset : ∀ l : AL, alook l x = none → aset l x v = l ++ [(x, v)] := by
      intro l
      induction l with
      | nil => intro _; rfl
      | cons p r ih =>
        obtain ⟨k, u⟩ := p
        intro hl
        simp only [alook] at hl
        by_cases hkx : k = x
        · simp [hkx] at hl
        · simp only [if_neg hkx] at hl
          simp [aset, hkx, ih hl]
    simp [haset l q1, h3]
  · have hf := run_findKey (P := P) (w := w) hK q2
    simp only [Nat.zero_add] at hf
    have hold : ((es[j]?).map (·.key)).getD (.int .i64 x) = .int .i64 x := by
      have : es[j]? = some e := by simpa using he
      rw [this]; simp [hek]
    have hstay : (Instr.keyThatStays (.int .i64 x) (.int .i64 x)).run P w = .ok (.int .i64 x) w := by
      unfold Instr.keyThatStays; simp [Instr.sameBits]
    have hset := run_setObj_map (P := P) (.map (es.modify j fun e => { e with key := .int .i64 x, val := v }) c) h1
    refine ⟨_, by simp [run_underlying hT, Result.andThen, hg, hck, hf, hset, hold, hstay]; rfl, ⟨_, _, (heap_set h1).1, ?_, ?_⟩, keep _, by simp⟩
    · refine stamped_modify h2 j _ (fun _ _ => rfl) (fun e' _ he' => ?_)
      have e1 : es[j]? = some e := by simpa using he
      rw [e1] at he'
      cases he'
      exact hek.symm
    · have := q4 v
      simpa using this

theorem wpList_want {ops : Array Oper} {rest : List Oper} {o : Oper} {a : Act} {Q : Exit → Act → World → Prop} (hw : Region.wanted o (yielded ops a.tmps) = true)
    (h : ∀ K : Act → World → Prop, (∀ a w, wpList P ops Q rest a w → K a w) → o.wp P a w K Q) : wpList P ops Q (o :: rest) a w :=
  wpList_step fun K hK => by rw [if_pos hw]; exact h K hK

/-- the operation m[x] -/
theorem wpList_lookup_ints {ops : Array Oper} {rest : List Oper} {o : Oper} {a : Act} {Q : Exit → Act → World → Prop} (hg : Region.wanted o (yielded ops a.tmps) = true) (m xo : Operand) (ok : Bool) (hop : o.op = Op.lookup T m xo ok)
    (hT : P.underlying T = some (.map K E)) (hK : P.underlying K = some (.int .i64)) {z : Value} (hz : (zeroValue E).run P w = .ok z w) (hm : a.eval m = .map (some r)) (h : IntMap w r l) {x : Int} (hx : a.eval xo = .int .i64 x)
    (hk : wpList P ops Q rest (a.put o.dst (if ok then .tuple #[(alook l x).getD z, .bool (alook l x).isSome] else (alook l x).getD z)) w) : wpList P ops Q (o :: rest) a w := by
  refine wpList_want hg fun K' hK' => ?_
  unfold Oper.wp
  simp only [execOp, hop, hm, hx]
  simp [run_lookup_ints hT hK hz h x ok, Result.andThen]
  exact hK' _ _ hk

/-- the operation m[x] = v -/
theorem wpList_update_ints {ops : Array Oper} {rest : List Oper} {o : Oper} {a : Act} {Q : Exit → Act → World → Prop} (hg : Region.wanted o (yielded ops a.tmps) = true) (m xo vo : Operand) (hop : o.op = Op.mapUpdate T m xo vo)
    (hT : P.underlying T = some (.map K E)) (hK : P.underlying K = some (.int .i64)) (hm : a.eval m = .map (some r)) (h : IntMap w r l) {x : Int} {v : Value} (hx : a.eval xo = .int .i64 x) (hv : a.eval vo = v)
    (hk : ∀ w', IntMap w' r (aset l x v) → w.grownBy w' (some r) → w'.heap.size = w.heap.size → wpList P ops Q rest (a.put o.dst undef) w') : wpList P ops Q (o :: rest) a w := by
  refine wpList_want hg fun K' hK' => ?_
  obtain ⟨w', hrun, h1, h2, h3⟩ := run_update_ints hT hK h x v
  unfold Oper.wp
  simp only [execOp, hop, hm, hx, hv]
  simp [hrun, Result.andThen]
  exact hK' _ _ (hk w' h1 h2 h3)
end

/-! ### a map to bool as a set -/
/-- block r is a map to bool in which just the numbers S are true -/
def SetMap (w : World) (r : Nat) (S : List Int) : Prop := ∃ l, IntMap w r l ∧ ∀ x, (alook l x).getD (.bool false) = .bool (hasB S x)
theorem SetMap.lt {w : World} {r : Nat} {l : List Int} (h : SetMap w r l) : r < w.heap.size := by obtain ⟨l, h, _⟩ := h; exact h.lt
theorem SetMap.below {B r : Nat} {w w' : World} {l : List Int} (h : SetMap w r l) (hb : Below B w w') (hr : r < B) : SetMap w' r l := by
  obtain ⟨l, h1, h2⟩ := h; exact ⟨l, h1.below hb hr, h2⟩
theorem SetMap.ext {r : Nat} {w w' : World} {l : List Int} (h : SetMap w r l) (hb : Below w.heap.size w w') : SetMap w' r l := h.below hb h.lt
theorem SetMap.alloc {r : Nat} {w : World} {l : List Int} (h : SetMap w r l) (o : Obj) : SetMap (w.alloc o) r l := h.ext ((Below.refl _ _).alloc (Nat.le_refl _) o)
theorem SetMap.setCell {r : Nat} {w : World} {l : List Int} (h : SetMap w r l) (a : Addr) (v : Value) (hne : r ≠ a.block) : SetMap (w.setCell a v) r l := by
  obtain ⟨l, h1, h2⟩ := h; exact ⟨l, h1.setCell a v hne, h2⟩
theorem SetMap.grown {r : Nat} {w w' : World} {l : List Int} {row : Option Nat} (h : SetMap w r l) (hg : w.grownBy w' row) (hne : some r ≠ row) : SetMap w' r l := by
  obtain ⟨l, ⟨es, c, h1, h2⟩, h3⟩ := h
  exact ⟨l, ⟨es, c, (hg.block r (Array.getElem?_eq_some_iff.1 h1).1 hne).trans h1, h2⟩, h3⟩
theorem SetMap.made (w : World) : SetMap (w.alloc (.map #[] 0)) w.heap.size [] := ⟨[], IntMap.made w, fun x => by simp [alook, hasB]⟩
theorem hasB_snoc (S : List Int) (x y : Int) : hasB (S ++ [x]) y = (hasB S y || (x == y)) := by
  unfold hasB
  rw [Bool.eq_iff_iff]
  simp only [List.contains_iff_mem, List.mem_append, List.mem_singleton, Bool.or_eq_true, beq_iff_eq]
  exact or_congr Iff.rfl eq_comm
theorem hasB_append (S T : List Int) (y : Int) : hasB (S ++ T) y = (hasB S y || hasB T y) := by
  unfold hasB
  rw [Bool.eq_iff_iff]
  simp only [List.contains_iff_mem, List.mem_append, Bool.or_eq_true]
section
variable {P : Program} {w : World} {T K E : TypeId} {r : Nat} {S : List Int}
theorem wpList_lookup_set {ops : Array Oper} {rest : List Oper} {o : Oper} {a : Act} {Q : Exit → Act → World → Prop} (hg : Region.wanted o (yielded ops a.tmps) = true) (m xo : Operand) (hop : o.op = Op.lookup T m xo false)
    (hT : P.underlying T = some (.map K E)) (hK : P.underlying K = some (.int .i64)) (hz : (zeroValue E).run P w = .ok (.bool false) w) (hm : a.eval m = .map (some r)) (h : SetMap w r S) {x : Int} (hx : a.eval xo = .int .i64 x)
    (hk : wpList P ops Q rest (a.put o.dst (.bool (hasB S x))) w) : wpList P ops Q (o :: rest) a w := by
  obtain ⟨l, h1, h2⟩ := h
  refine wpList_lookup_ints hg m xo false hop hT hK hz hm h1 hx ?_
  simp only [Bool.false_eq_true, if_false, h2]
  exact hk
theorem wpList_update_set {ops : Array Oper} {rest : List Oper} {o : Oper} {a : Act} {Q : Exit → Act → World → Prop} (hg : Region.wanted o (yielded ops a.tmps) = true) (m xo vo : Operand) (hop : o.op = Op.mapUpdate T m xo vo)
    (hT : P.underlying T = some (.map K E)) (hK : P.underlying K = some (.int .i64)) (hm : a.eval m = .map (some r)) (h : SetMap w r S) {x : Int} (hx : a.eval xo = .int .i64 x) (hv : a.eval vo = .bool true)
    (hk : ∀ w', SetMap w' r (S ++ [x]) → w.grownBy w' (some r) → w'.heap.size = w.heap.size → wpList P ops Q rest (a.put o.dst undef) w') : wpList P ops Q (o :: rest) a w := by
  obtain ⟨l, h1, h2⟩ := h
  refine wpList_update_ints hg m xo vo hop hT hK hm h1 hx hv fun w' q1 q2 q3 => hk w' ⟨_, q1, fun y => ?_⟩ q2 q3
  rw [alook_aset, hasB_snoc]
  by_cases e : y = x
  · subst e; simp
  · have e2 : (x == y) = false := by simp; exact fun h => e h.symm
    rw [if_neg e, e2, Bool.or_false]; exact h2 y
end

end Go.Proofs.Ytndcbnnbgedgcaa
