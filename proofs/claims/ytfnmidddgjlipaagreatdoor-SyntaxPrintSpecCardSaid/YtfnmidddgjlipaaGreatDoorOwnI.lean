/-
  A list of numbers that the call itself has made, and appends to it.
-/
import Derived.Test.YtfnmidddgjlipaaGreatDoorProg
import Derived.Test.YtfnmidddgjlipaaGreatDoorLib
set_option linter.unusedVariables false
set_option linter.unusedSimpArgs false
namespace Go.Proofs.YtfnmidddgjlipaaGreatDoor
open Go.RowKit

theorem int_info : (Tryz.prog.info? 3).map (fun i => (i.zero, i.size, i.bytes)) = some (some (.int .i64 0), 1, 8) := by kernel_rfl

/-- v reads as xs and its array was made from block B on -/
def OwnInts (B : Nat) (w : World) (v : Value) (xs : List Int) : Prop :=
  w.ownsRow B 3 1 v xs.length (xs.map (Value.int .i64)) ∧ xs.length ≤ 17592186043904 ∧ ∀ x ∈ xs, I64 x

theorem OwnInts.nil (B : Nat) (w : World) : OwnInts B w (.slice none 0 0) [] := ⟨World.ownsRow_nil _ _ _ _, by simp, by simp⟩
theorem OwnInts.made {B : Nat} {w : World} (hB : B ≤ w.heap.size) : OwnInts B (w.alloc (.cells #[] 3)) (.slice (some ⟨w.heap.size, 0, none⟩) 0 0) [] :=
  ⟨World.ownsRow_made w #[] 0 hB (by simp) rfl, by simp, by simp⟩
theorem OwnInts.made' {B n : Nat} {w : World} (hn : n = w.heap.size) (hB : B ≤ w.heap.size) : OwnInts B (w.alloc (.cells #[] 3)) (.slice (some ⟨n, 0, none⟩) 0 0) [] := by
  subst hn; exact OwnInts.made hB
theorem OwnInts.alloc {B : Nat} {w : World} {v : Value} {xs : List Int} (h : OwnInts B w v xs) (o : Obj) : OwnInts B (w.alloc o) v xs := ⟨h.1.alloc o, h.2⟩
theorem OwnInts.kept {B : Nat} {w w' : World} {v : Value} {xs : List Int} {row : Option Nat} (h : OwnInts B w v xs) (hg : w.grownBy w' row) (hne : v.ownBlock = none ∨ v.ownBlock ≠ row) : OwnInts B w' v xs := ⟨h.1.kept hg hne, h.2⟩
theorem OwnInts.below {B : Nat} {w w' : World} {v : Value} {xs : List Int} (h : OwnInts B w v xs) (hb : Below w.heap.size w w') : OwnInts B w' v xs :=
  h.kept (row := none) ⟨hb.os, hb.tape, hb.output, hb.size, fun k hk _ => hb.block k hk⟩ (by cases hv : v.ownBlock <;> simp)
theorem OwnInts.mono {B B' : Nat} {w : World} {v : Value} {xs : List Int} (h : OwnInts B w v xs) (hB : B' ≤ B) : OwnInts B' w v xs := by
  refine ⟨⟨h.1.1, ?_⟩, h.2⟩
  rcases h.1.2 with hn | ⟨g, cap, cur, hv, hb, rest⟩
  · exact Or.inl hn
  · exact Or.inr ⟨g, cap, cur, hv, by omega, rest⟩
theorem OwnInts.isInts {B : Nat} {w : World} {v : Value} {xs : List Int} (h : OwnInts B w v xs) : IsInts w.heap.size w v xs := by
  obtain ⟨⟨_, h1⟩, h2, h3⟩ := h
  rcases h1 with ⟨rfl, hn⟩ | ⟨g, cap, cur, rfl, hb, hg, hnc, hcm, hcs, htk⟩
  · exact ⟨0, 0, 0, ⟨none, by rw [hn], by omega, by omega, Or.inr hn⟩, h2, h3, fun j hj => by omega⟩
  · refine ⟨g, 0, cap, ⟨some ⟨g, 0, none⟩, rfl, hnc, by unfold maxLen at hcm; omega, Or.inl rfl⟩, h2, h3, fun j hj => ⟨(Array.getElem?_eq_some_iff.1 hg).1, ?_⟩⟩
    have hlt : j < cur.size := by omega
    simp only [World.cell?, hg, Nat.zero_add]
    have : (cur.toList.take (xs.length * 1))[j]? = (xs.map (Value.int .i64))[j]? := by rw [htk]
    rw [List.getElem?_take, if_pos (by omega)] at this
    simp only [List.getElem?_map, List.getElem?_eq_getElem hj, Option.map_some] at this
    unfold nth
    rw [List.getD_eq_getElem?_getD, List.getElem?_eq_getElem hj]
    simpa using this
theorem OwnInts.form {B : Nat} {w : World} {v : Value} {xs : List Int} (h : OwnInts B w v xs) : ∃ a cap, v = .slice a xs.length cap ∧ (∀ k, v.ownBlock = some k → B ≤ k ∧ k < w.heap.size) := by
  have hl := h.1.lt
  rcases h.1.2 with ⟨rfl, hn⟩ | ⟨g, cap, cur, rfl, rest⟩
  · exact ⟨none, 0, by rw [hn], hl⟩
  · exact ⟨_, cap, rfl, hl⟩

theorem OwnInts.form' {B : Nat} {w : World} {v : Value} {xs : List Int} (h : OwnInts B w v xs) : ∃ a n cap, v = .slice a n cap := by
  obtain ⟨a, c, e, _⟩ := h.form
  exact ⟨a, _, c, e⟩

/-- append(s, n) -/
theorem append_int {ops : Array Oper} {rest : List Oper} {o : Oper} {a : Act} {w : World} {Q : Exit → Act → World → Prop} (hgd : o.guard = none) (s x : Operand)
    (ho : o.op = .call { callee := .builtin .append, args := #[s, x], argTypes := #[117, 117] })
    {B : Nat} {v : Value} {xs : List Int} {n : Int} {g c : Nat} (hs : a.eval s = v) (hown : OwnInts B w v xs) (hx : a.eval x = .slice (some ⟨g, 0, none⟩) 1 c)
    (hg : w.cell? ⟨g, 0, none⟩ = some (.int .i64 n)) (hn : I64 n) (hlen : xs.length + 1 ≤ 17592186043904) (hB : B ≤ w.heap.size)
    (h : ∀ v' w', OwnInts B w' v' (xs ++ [n]) → w.grownBy w' v.ownBlock → wpList Tryz.prog ops Q rest (a.put o.dst v') w') : wpList Tryz.prog ops Q (o :: rest) a w := by
  obtain ⟨i0, hi, hz0, hz1, hz2⟩ := info_parts int_info
  refine wpList_append_own w hgd s x 117 ho B 3 i0 (.int .i64 0) 1 8 Tryz.underlying117 hi hz0 hz1 hz2 rfl (by decide) v xs.length (xs.map (Value.int .i64)) hs hown.1 ⟨g, 0, none⟩ 1 c [.int .i64 n] hx rfl ?_ ?_ ?_ ?_ hB ?_
  · intro j u hj
    match j, hj with
    | 0, hj => simp at hj; subst hj; simpa [Addr.add] using hg
  · intro u hu; simp at hu; subst hu; rfl
  · unfold maxLen; omega
  · omega
  · intro v' w' h1 h2 _
    refine h v' w' ⟨by simpa using h1, by simpa using hlen, ?_⟩ h2
    intro y hy
    rcases List.mem_append.1 hy with hy | hy
    · exact hown.2.2 y hy
    · simp at hy; subst hy; exact hn

/-- append(s, t...) where t has elements -/
theorem append_ints {ops : Array Oper} {rest : List Oper} {o : Oper} {a : Act} {w : World} {Q : Exit → Act → World → Prop} (hgd : o.guard = none) (s x : Operand)
    (ho : o.op = .call { callee := .builtin .append, args := #[s, x], argTypes := #[117, 117] })
    {B B' : Nat} {v vx : Value} {xs ys : List Int} (hs : a.eval s = v) (hown : OwnInts B w v xs) (hx : a.eval x = vx) (hy : IsInts B' w vx ys) (hne : ys ≠ [])
    (hlen : xs.length + ys.length ≤ 17592186043904) (hB : B ≤ w.heap.size)
    (h : ∀ v' w', OwnInts B w' v' (xs ++ ys) → w.grownBy w' v.ownBlock → wpList Tryz.prog ops Q rest (a.put o.dst v') w') : wpList Tryz.prog ops Q (o :: rest) a w := by
  obtain ⟨i0, hi, hz0, hz1, hz2⟩ := info_parts int_info
  obtain ⟨b, off, cap, ⟨ad, rfl, hcap, hmax, ha⟩, hly, hz, hc⟩ := hy
  have hpos : 0 < ys.length := List.length_pos_iff.2 hne
  obtain rfl : ad = some ⟨b, off, none⟩ := by rcases ha with ha | ha; exact ha; omega
  refine wpList_append_own w hgd s x 117 ho B 3 i0 (.int .i64 0) 1 8 Tryz.underlying117 hi hz0 hz1 hz2 rfl (by decide) v xs.length (xs.map (Value.int .i64)) hs hown.1 ⟨b, off, none⟩ ys.length cap (ys.map (Value.int .i64)) hx (by simp) ?_ ?_ ?_ ?_ hB ?_
  · intro j u hj
    have hlt : j < ys.length := by
      have := (List.getElem?_eq_some_iff.1 hj).1
      simpa using this
    have h1 := (hc j hlt).2
    rw [nth_eq_getElem hlt] at h1
    rw [List.getElem?_map, List.getElem?_eq_getElem hlt] at hj
    have e : (⟨b, off, none⟩ : Addr).add j = ⟨b, off + j, none⟩ := by unfold Addr.add; split <;> simp_all
    rw [e, h1]
    simpa using hj
  · intro u hu
    obtain ⟨n, _, rfl⟩ := List.mem_map.1 hu
    rfl
  · unfold maxLen; omega
  · omega
  · intro v' w' h1 h2 _
    refine h v' w' ⟨by simpa using h1, by simpa using hlen, ?_⟩ h2
    intro y hy
    rcases List.mem_append.1 hy with hy | hy
    · exact hown.2.2 y hy
    · exact hz y hy

theorem OwnInts.one {B k : Nat} {w : World} {n : Int} (hn : I64 n) (hk : k = w.heap.size) (hB : B ≤ w.heap.size) : OwnInts B (w.alloc (.cells #[.int .i64 n] 3)) (.slice (some ⟨k, 0, none⟩) 1 1) [n] := by
  subst hk
  exact ⟨⟨by simp, Or.inr ⟨w.heap.size, 1, #[.int .i64 n], rfl, hB, heap_alloc_new w _, by simp, by unfold maxLen; omega, by simp, by simp⟩⟩, by simp, by simp; exact hn⟩

end Go.Proofs.YtfnmidddgjlipaaGreatDoor
