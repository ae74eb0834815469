/-
  Bases for every seat: a source of an append, the append's run, blocks of cells.
-/
import Derived.Test.YtfnmidddgjlipaaGreatDoorLib
import Derived.Maps.AppendAt
import Derived.Deep.AppendLies
import Derived.Deep.Slices
set_option linter.unusedVariables false
set_option linter.unusedSimpArgs false
namespace Go.Proofs.YtfnmidddgjlipaaGreatDoor
open Go.RowKit

section
variable {P : Program} (w : World)
theorem run_append_nil_src (base : Nat) (t ty e : TypeId) (i : TypeInfo) (size : Nat) (ht : P.underlying t = some (.slice e)) (hi : P.info? e = some i)
    (v : Value) (n : Nat) (xs : List Value) (hown : w.ownsRow base e size v n xs) (c : Nat) : (Builtin.append_ #[t, t] ty #[v, .slice none 0 c]).run P w = .ok v w := by
  rcases hown.2 with ⟨rfl, rfl⟩ | ⟨g, cap, cur, rfl, _, _, hnc, _⟩
  · simp [Builtin.append_, run_underlying ht, sizeOf, typeInfo, hi, Builtin.lenOf, Builtin.firstCells]
  · simp [Builtin.append_, run_underlying ht, sizeOf, typeInfo, hi, Builtin.lenOf, Builtin.firstCells, hnc, storeCells]

/-- a source of an append: a slice whose m elements are the cells news -/
def Src (w : World) (size : Nat) (vx : Value) (m : Nat) (news : List Value) : Prop :=
  ∃ A c, vx = .slice A m c ∧ news.length = m * size ∧ (∀ j u, news[j]? = some u → ∃ ad, A = some ad ∧ w.cell? (ad.add j) = some u) ∧ ∀ u ∈ news, u.oneCell' = true

theorem run_append_gen (base : Nat) (t ty e : TypeId) (i : TypeInfo) (z : Value) (size bytes : Nat) (ht : P.underlying t = some (.slice e)) (hi : P.info? e = some i) (hz : i.zero = some z)
    (hsize : i.size = size) (hby : i.bytes = bytes) (hzs : z.cells.size = size) (hsz : 0 < size)
    (v : Value) (n : Nat) (xs : List Value) (hown : w.ownsRow base e size v n xs)
    (vx : Value) (m : Nat) (news : List Value) (hr : Src w size vx m news)
    (h63 : n + m ≤ maxLen) (hbytes : (n + m) * bytes ≤ 140737488355328) (hbase : base ≤ w.heap.size) :
    ∃ v' w', (Builtin.append_ #[t, t] ty #[v, vx]).run P w = .ok v' w' ∧ w'.ownsRow base e size v' (n + m) (xs ++ news) ∧ w.grownBy w' v.ownBlock ∧
      (v'.ownBlock = v.ownBlock ∨ v'.ownBlock = some w.heap.size) := by
  obtain ⟨A, c, rfl, hl, hc, h1⟩ := hr
  rcases A with _ | ad
  · have hn : news = [] := by
      rcases news with _ | ⟨u, r⟩
      · rfl
      · obtain ⟨ad, h, _⟩ := hc 0 u rfl
        cases h
    subst hn
    have hm : m = 0 := by
      rcases Nat.eq_zero_or_pos m with h | h
      · exact h
      · have := Nat.mul_pos h hsz
        simp only [List.length_nil] at hl
        omega
    subst hm
    exact ⟨v, w, run_append_nil_src w base t ty e i size ht hi v n xs hown c, by simpa using hown, World.grownBy.refl w _, .inl rfl⟩
  · have hcells : ∀ j u, news[j]? = some u → w.cell? (ad.add j) = some u := by
      intro j u hu
      obtain ⟨ad', h, hh⟩ := hc j u hu
      injection h with h
      subst h
      exact hh
    obtain ⟨v', w', hrun, h2, h3, _, h5⟩ := run_append_own_at (P := P) w base t ty e i z size bytes ht hi hz hsize hby hzs hsz v n xs hown ad m c news hl hcells h1 h63 hbytes hbase
    exact ⟨v', w', hrun, h2, h3, h5⟩

theorem wp_of_append {o : Oper} {a : Act} {K : Act → World → Prop} {Q : Exit → Act → World → Prop} {s x : Operand} {t : TypeId}
    (ho : o.op = .call { callee := .builtin .append, args := #[s, x], argTypes := #[t, t] }) {v vx v' : Value} {w' : World} (hs : a.eval s = v) (hx : a.eval x = vx)
    (hrun : (Builtin.append_ #[t, t] o.type #[v, vx]).run P w = .ok v' w') (h : K (a.put o.dst v') w') : o.wp P a w K Q := by
  unfold Oper.wp execOp
  simp only [ho, resolve, invoke, builtin, Sem.run_bind, Sem.run_pure, Result.andThen_ok, List.map_toArray, List.map_cons, List.map_nil, hs, hx, hrun]
  exact h
end

theorem IsInts.src {B : Nat} {w : World} {v : Value} {ys : List Int} (h : IsInts B w v ys) : Src w 1 v ys.length (ys.map (Value.int .i64)) := by
  obtain ⟨b, off, cap, ⟨ad, rfl, hcap, hmax, ha⟩, hly, hz, hc⟩ := h
  refine ⟨ad, cap, rfl, by simp, fun j u hj => ?_, fun u hu => ?_⟩
  · have hlt : j < ys.length := by
      have := (List.getElem?_eq_some_iff.1 hj).1
      simpa using this
    obtain rfl : ad = some ⟨b, off, none⟩ := by rcases ha with ha | ha; exact ha; omega
    have h1 := (hc j hlt).2
    rw [nth_eq_getElem hlt] at h1
    rw [List.getElem?_map, List.getElem?_eq_getElem hlt] at hj
    have e : (⟨b, off, none⟩ : Addr).add j = ⟨b, off + j, none⟩ := by unfold Addr.add; split <;> simp_all
    refine ⟨_, rfl, ?_⟩
    rw [e, h1]
    simpa using hj
  · obtain ⟨n, _, rfl⟩ := List.mem_map.1 hu
    rfl
theorem src_one {w : World} {g c : Nat} {u : Value} (hg : w.cell? ⟨g, 0, none⟩ = some u) (h1 : u.oneCell' = true) : Src w 1 (.slice (some ⟨g, 0, none⟩) 1 c) 1 [u] := by
  refine ⟨_, c, rfl, rfl, fun j u' hj => ?_, by simpa using h1⟩
  match j, hj with
  | 0, hj => simp at hj; subst hj; exact ⟨_, rfl, by simpa [Addr.add] using hg⟩

def CellsN (w : World) (b : Nat) (c : Array Value) : Prop := ∃ t, w.heap[b]? = some (.cells c t (0, 0))
theorem CellsN.lt {w : World} {b : Nat} {c : Array Value} (h : CellsN w b c) : b < w.heap.size := by obtain ⟨t, h⟩ := h; exact (Array.getElem?_eq_some_iff.1 h).1
theorem CellsN.new (w : World) (c : Array Value) (t : TypeId) : CellsN (w.alloc (.cells c t)) w.heap.size c := ⟨t, heap_alloc_new w _⟩
theorem CellsN.grown {b : Nat} {w w' : World} {c : Array Value} {row : Option Nat} (h : CellsN w b c) (hg : w.grownBy w' row) (hne : some b ≠ row) : CellsN w' b c := by
  have hl := h.lt
  obtain ⟨t, h⟩ := h
  exact ⟨t, (hg.block b hl hne).trans h⟩
theorem CellsN.below {B b : Nat} {w w' : World} {c : Array Value} (h : CellsN w b c) (hb : Below B w w') (hB : b < B) : CellsN w' b c := by
  obtain ⟨t, h⟩ := h
  exact ⟨t, (hb.block b hB).trans h⟩
theorem CellsN.ext {b : Nat} {w w' : World} {c : Array Value} (h : CellsN w b c) (hb : Below w.heap.size w w') : CellsN w' b c := h.below hb h.lt
theorem CellsN.alloc {b : Nat} {w : World} {c : Array Value} (h : CellsN w b c) (o : Obj) : CellsN (w.alloc o) b c := h.ext (box_below' w o)
theorem CellsN.cell {b : Nat} {w : World} {c : Array Value} (h : CellsN w b c) (i : Nat) : w.cell? ⟨b, i, none⟩ = c[i]? := by
  obtain ⟨t, h⟩ := h
  simp [World.cell?, h]
theorem CellsN.free {b : Nat} {w : World} {c : Array Value} (h : CellsN w b c) (i : Nat) : w.frozen? ⟨b, i, none⟩ = false := by
  obtain ⟨t, h⟩ := h
  simp [World.frozen?, h]
theorem CellsN.box {b : Nat} {w : World} {c : Array Value} (h : CellsN w b c) : Box w b c := ⟨h.lt, fun i => h.cell i⟩
theorem CellsN.set {b : Nat} {w : World} {c : Array Value} (h : CellsN w b c) (i : Nat) (u : Value) : CellsN (w.setCell ⟨b, i, none⟩ u) b (c.setIfInBounds i u) := by
  obtain ⟨t, h⟩ := h
  refine ⟨t, ?_⟩
  simp [World.setCell, Array.getElem?_modify, h]

end Go.Proofs.YtfnmidddgjlipaaGreatDoor
