/-
  Maps whose keys are of type string, as lists of pairs in the order of their making.
-/
import Derived.Test.YtmfbabmejbppjaaLib
import Derived.MapKept
import Derived.RangeFuncRecord
import Derived.Maps.OwnOps
import Derived.Maps.OwnSet
set_option linter.unusedVariables false
set_option linter.unusedSimpArgs false
namespace Go.Proofs.Ytmfbabmejbppjaa
open Go.RowKit Go.MapKept

abbrev SAL := List (ByteArray × Value)
def slook : SAL → ByteArray → Option Value
  | [], _ => none
  | (k, v) :: r, x => if k = x then some v else slook r x
def sset : SAL → ByteArray → Value → SAL
  | [], x, v => [(x, v)]
  | (k, u) :: r, x, v => if k = x then (k, v) :: r else (k, u) :: sset r x v
def sdel : SAL → ByteArray → SAL
  | [], _ => []
  | (k, u) :: r, x => if k = x then r else (k, u) :: sdel r x

theorem slook_sset (l : SAL) (x y : ByteArray) (v : Value) : slook (sset l x v) y = if y = x then some v else slook l y := by
  induction l with
  | nil => simp only [sset, slook]; by_cases h : x = y <;> simp [h, eq_comm]
  | cons p r ih =>
    obtain ⟨k, u⟩ := p
    simp only [sset]
    by_cases hk : k = x
    · subst hk
      simp only [if_true, slook]
      by_cases hy : k = y
      · subst hy; simp
      · rw [if_neg hy, if_neg hy, if_neg (fun e => hy e.symm)]
    · rw [if_neg hk]
      simp only [slook, ih]
      by_cases hy : k = y
      · subst hy; rw [if_pos rfl, if_pos rfl, if_neg hk]
      · rw [if_neg hy, if_neg hy]
theorem mem_sset_key {l : SAL} {x y : ByteArray} {v : Value} : y ∈ (sset l x v).map (·.1) ↔ y = x ∨ y ∈ l.map (·.1) := by
  induction l with
  | nil => simp [sset]
  | cons p r ih =>
    obtain ⟨k, u⟩ := p
    simp only [sset]
    by_cases hk : k = x
    · subst hk; simp
    · rw [if_neg hk]
      simp only [List.map_cons, List.mem_cons, ih]
      constructor
      · rintro (h | h | h)
        · exact Or.inr (Or.inl h)
        · exact Or.inl h
        · exact Or.inr (Or.inr h)
      · rintro (h | h | h)
        · exact Or.inr (Or.inl h)
        · exact Or.inl h
        · exact Or.inr (Or.inr h)
theorem nodup_sset {l : SAL} (h : (l.map (·.1)).Nodup) (x : ByteArray) (v : Value) : ((sset l x v).map (·.1)).Nodup := by
  induction l with
  | nil => simp [sset]
  | cons p r ih =>
    obtain ⟨k, u⟩ := p
    simp only [List.map_cons, List.nodup_cons] at h
    simp only [sset]
    by_cases hk : k = x
    · rw [if_pos hk]; simpa using h
    · rw [if_neg hk]
      simp only [List.map_cons, List.nodup_cons]
      refine ⟨fun hm => ?_, ih h.2⟩
      rcases mem_sset_key.1 hm with e | e
      · exact hk e
      · exact h.1 e

/-- block r is a map that holds the pairs l -/
def StrMap (w : World) (r : Nat) (l : SAL) : Prop :=
  ∃ es c, w.heap[r]? = some (.map es c) ∧ Stamped es c ∧ es.toList.map (fun e => (e.key, e.val)) = l.map (fun p => (Value.string p.1, p.2))

theorem StrMap.lt {w : World} {r : Nat} {l : SAL} (h : StrMap w r l) : r < w.heap.size := by
  obtain ⟨es, c, h1, _⟩ := h
  exact (Array.getElem?_eq_some_iff.1 h1).1
theorem StrMap.below {B r : Nat} {w w' : World} {l : SAL} (h : StrMap w r l) (hb : Below B w w') (hr : r < B) : StrMap w' r l := by
  obtain ⟨es, c, h1, h2⟩ := h
  exact ⟨es, c, (hb.block r hr).trans h1, h2⟩
theorem StrMap.ext {r : Nat} {w w' : World} {l : SAL} (h : StrMap w r l) (hb : Below w.heap.size w w') : StrMap w' r l := h.below hb h.lt
theorem StrMap.alloc {r : Nat} {w : World} {l : SAL} (h : StrMap w r l) (o : Obj) : StrMap (w.alloc o) r l := h.ext ((Below.refl _ _).alloc (Nat.le_refl _) o)
theorem StrMap.setCell {r : Nat} {w : World} {l : SAL} (h : StrMap w r l) (a : Addr) (v : Value) (hne : r ≠ a.block) : StrMap (w.setCell a v) r l := by
  obtain ⟨es, c, h1, h2⟩ := h
  exact ⟨es, c, (Below.heap_setCell w a v r hne).trans h1, h2⟩
theorem StrMap.made (w : World) : StrMap (w.alloc (.map #[] 0)) w.heap.size [] :=
  ⟨#[], 0, heap_alloc_new w _, stamped_empty 0, rfl⟩
theorem StrMap.drewN {r : Nat} {w : World} {l : SAL} (h : StrMap w r l) (n : Nat) : StrMap (w.drewN n) r l := h

theorem keys_strs {es : List MapEntry} {l : SAL} (h : es.map (fun e => (e.key, e.val)) = l.map (fun p => (Value.string p.1, p.2))) : ∀ e ∈ es, IsKey .string e.key := by
  intro e he
  have : (e.key, e.val) ∈ l.map (fun p => (Value.string p.1, p.2)) := by rw [← h]; exact List.mem_map_of_mem he
  obtain ⟨p, _, hp⟩ := List.mem_map.1 this
  simp only [Prod.mk.injEq] at hp
  rw [← hp.1]
  trivial

theorem findNow_strs : ∀ (es : List MapEntry) (l : SAL) (i : Nat) (x : ByteArray), es.map (fun e => (e.key, e.val)) = l.map (fun p => (Value.string p.1, p.2)) →
    (slook l x = none ∧ Instr.findNow .string (.string x) es i = some none ∧ (∀ e ∈ es, e.key ≠ .string x)) ∨
    ∃ j v, slook l x = some v ∧ Instr.findNow .string (.string x) es i = some (some (i + j, v)) ∧ (∃ e, es[j]? = some e ∧ e.key = .string x) ∧
      ∀ u, (es.modify j fun e => { e with key := .string x, val := u }).map (fun e => (e.key, e.val)) = (sset l x u).map (fun p => (Value.string p.1, p.2))
  | [], [], i, x, _ => Or.inl ⟨rfl, rfl, by simp⟩
  | [], p :: l, i, x, h => by simp at h
  | e :: es, [], i, x, h => by simp at h
  | e :: es, (k, v) :: l, i, x, h => by
    simp only [List.map_cons, List.cons.injEq, Prod.mk.injEq] at h
    obtain ⟨⟨hk, hv⟩, ht⟩ := h
    by_cases hx : k = x
    · subst hx
      refine Or.inr ⟨0, v, by simp [slook], ?_, ⟨e, rfl, hk⟩, fun u => ?_⟩
      · simp [Instr.findNow, Instr.sameNow, hk, hv, (bytes_beq k k).2 rfl]
      · simp [sset, List.modify, ht]
    · have hsame : Instr.sameNow .string (.string x) e.key = some false := by
        rw [hk]
        have hb : (x == k) = false := by
          rw [Bool.eq_false_iff]
          exact fun h' => hx ((bytes_beq x k).1 h').symm
        simp [Instr.sameNow, hb]
      rcases findNow_strs es l (i + 1) x ht with ⟨h1, h2, h3⟩ | ⟨j, u, h1, h2, h3, h4⟩
      · refine Or.inl ⟨by simp [slook, hx, h1], by simp [Instr.findNow, hsame, h2], ?_⟩
        intro e' he'
        rcases List.mem_cons.1 he' with rfl | he'
        · rw [hk]; simpa using hx
        · exact h3 e' he'
      · refine Or.inr ⟨j + 1, u, by simp [slook, hx, h1], by simp [Instr.findNow, hsame, h2]; omega, by simpa using h3, fun u' => ?_⟩
        have := h4 u'
        simp only [List.modify_succ_cons, List.map_cons, hk, hv, this, sset, if_neg hx]

section
variable {P : Program} {w : World} {T K E : TypeId} {r : Nat} {l : SAL}

/-- m[x], v, ok := m[x] -/
theorem run_lookup_strs (hT : P.underlying T = some (.map K E)) (hK : P.underlying K = some .string) {z : Value} (hz : (zeroValue E).run P w = .ok z w) (h : StrMap w r l) (x : ByteArray) (ok : Bool) :
    (Instr.lookup T (.map (some r)) (.string x) ok).run P w = .ok (if ok then .tuple #[(slook l x).getD z, .bool (slook l x).isSome] else (slook l x).getD z) w := by
  obtain ⟨es, c, h1, h2, h3⟩ := h
  have hk : IsKey .string (.string x) := trivial
  have hck : (Instr.checkKey es.isEmpty 10000 K (.string x)).run P w = .ok () w := run_checkKey hK hk es.isEmpty 9999
  have hg : (getObj r).run P w = .ok (.map es c) w := MapKept.run_getObj_map h1
  unfold Instr.lookup
  rcases findNow_strs es.toList l 0 x h3 with ⟨q1, q2, _⟩ | ⟨j, v, q1, q2, _⟩
  · have hf := run_findKey (P := P) (w := w) hK q2
    simp [run_underlying hT, Result.andThen, hg, hck, hf, hz, q1]
  · have hf := run_findKey (P := P) (w := w) hK q2
    simp [run_underlying hT, Result.andThen, hg, hck, hf, q1]

/-- m[x] = v -/
theorem run_update_strs (hT : P.underlying T = some (.map K E)) (hK : P.underlying K = some .string) (h : StrMap w r l) (x : ByteArray) (v : Value) :
    ∃ w', (Instr.mapUpdate T (.map (some r)) (.string x) v).run P w = .ok () w' ∧ StrMap w' r (sset l x v) ∧ w.grownBy w' (some r) ∧ w'.heap.size = w.heap.size := by
  obtain ⟨es, c, h1, h2, h3⟩ := h
  have hk : IsKey .string (.string x) := trivial
  have hck : (Instr.checkKey false 10000 K (.string x)).run P w = .ok () w := run_checkKey hK hk false 9999
  have hg : (getObj r).run P w = .ok (.map es c) w := MapKept.run_getObj_map h1
  have keep : ∀ o : Obj, w.grownBy { w with heap := w.heap.setIfInBounds r o } (some r) := fun o =>
    ⟨rfl, rfl, rfl, by simp, fun k hk' hne => by simp only [Array.getElem?_setIfInBounds]; rw [if_neg (fun e => hne (by rw [e]))]⟩
  unfold Instr.mapUpdate
  rcases findNow_strs es.toList l 0 x h3 with ⟨q1, q2, q3⟩ | ⟨j, u, q1, q2, ⟨e, he, hek⟩, q4⟩
  · have hf := run_findKey (P := P) (w := w) hK q2
    have hset := run_setObj_map (P := P) (.map (es.push { key := .string x, val := v, born := c }) (c + 1)) h1
    refine ⟨_, by simp [run_underlying hT, Result.andThen, hg, hck, hf, hset]; rfl, ⟨_, _, (heap_set h1).1, stamped_push h2 q3, ?_⟩, keep _, by simp⟩
    have hsset : ∀ l : SAL, slook l x = none → sset l x v = l ++ [(x, v)] := by
      intro l
      induction l with
      | nil => intro _; rfl
      | cons p r ih =>
        obtain ⟨k, u⟩ := p
        intro hl
        simp only [slook] at hl
        by_cases hkx : k = x
        · simp [hkx] at hl
        · simp only [if_neg hkx] at hl
          simp [sset, hkx, ih hl]
    simp [hsset l q1, h3]
  · have hf := run_findKey (P := P) (w := w) hK q2
    simp only [Nat.zero_add] at hf
    have hold : ((es[j]?).map (·.key)).getD (.string x) = .string x := by
      have : es[j]? = some e := by simpa using he
      rw [this]; simp [hek]
    have hstay : (Instr.keyThatStays (.string x) (.string x)).run P w = .ok (.string x) w := by
      unfold Instr.keyThatStays; simp [Instr.sameBits, (bytes_beq x x).2 rfl]
    have hset := run_setObj_map (P := P) (.map (es.modify j fun e => { e with key := .string x, val := v }) c) h1
    refine ⟨_, by simp [run_underlying hT, Result.andThen, hg, hck, hf, hset, hold, hstay]; rfl, ⟨_, _, (heap_set h1).1, ?_, ?_⟩, keep _, by simp⟩
    · refine stamped_modify h2 j _ (fun _ _ => rfl) (fun e' _ he' => ?_)
      have e1 : es[j]? = some e := by simpa using he
      rw [e1] at he'
      cases he'
      exact hek.symm
    · have := q4 v
      simpa using this

theorem wpList_wantS {ops : Array Oper} {rest : List Oper} {o : Oper} {a : Act} {Q : Exit → Act → World → Prop} (hw : Region.wanted o (yielded ops a.tmps) = true)
    (h : ∀ K : Act → World → Prop, (∀ a w, wpList P ops Q rest a w → K a w) → o.wp P a w K Q) : wpList P ops Q (o :: rest) a w :=
  wpList_step fun K hK => by rw [if_pos hw]; exact h K hK

/-- the operation m[x] -/
theorem wpList_lookup_strs {ops : Array Oper} {rest : List Oper} {o : Oper} {a : Act} {Q : Exit → Act → World → Prop} (hg : Region.wanted o (yielded ops a.tmps) = true) (m xo : Operand) (ok : Bool) (hop : o.op = Op.lookup T m xo ok)
    (hT : P.underlying T = some (.map K E)) (hK : P.underlying K = some .string) {z : Value} (hz : (zeroValue E).run P w = .ok z w) (hm : a.eval m = .map (some r)) (h : StrMap w r l) {x : ByteArray} (hx : a.eval xo = .string x)
    (hk : wpList P ops Q rest (a.put o.dst (if ok then .tuple #[(slook l x).getD z, .bool (slook l x).isSome] else (slook l x).getD z)) w) : wpList P ops Q (o :: rest) a w := by
  refine wpList_wantS hg fun K' hK' => ?_
  unfold Oper.wp
  simp only [execOp, hop, hm, hx]
  simp [run_lookup_strs hT hK hz h x ok, Result.andThen]
  exact hK' _ _ hk

/-- the operation m[x] = v -/
theorem wpList_update_strs {ops : Array Oper} {rest : List Oper} {o : Oper} {a : Act} {Q : Exit → Act → World → Prop} (hg : Region.wanted o (yielded ops a.tmps) = true) (m xo vo : Operand) (hop : o.op = Op.mapUpdate T m xo vo)
    (hT : P.underlying T = some (.map K E)) (hK : P.underlying K = some .string) (hm : a.eval m = .map (some r)) (h : StrMap w r l) {x : ByteArray} {v : Value} (hx : a.eval xo = .string x) (hv : a.eval vo = v)
    (hk : ∀ w', StrMap w' r (sset l x v) → w.grownBy w' (some r) → w'.heap.size = w.heap.size → wpList P ops Q rest (a.put o.dst undef) w') : wpList P ops Q (o :: rest) a w := by
  refine wpList_wantS hg fun K' hK' => ?_
  obtain ⟨w', hrun, h1, h2, h3⟩ := run_update_strs hT hK h x v
  unfold Oper.wp
  simp only [execOp, hop, hm, hx, hv]
  simp [hrun, Result.andThen]
  exact hK' _ _ (hk w' h1 h2 h3)
end

end Go.Proofs.Ytmfbabmejbppjaa
