/-
  Lists of the call's own under a store elsewhere; the fact about moved numbers.
-/
import Derived.Test.YtmfbabmejbppjaaOl6d
set_option linter.unusedVariables false
set_option linter.unusedSimpArgs false
namespace Go.Proofs.Ytmfbabmejbppjaa
open Go.RowKit

theorem OwnStrs.row {C : Nat} {w w' : World} {v : Value} {xs : List Str} {row : Option Nat} (h : OwnStrs C w v xs) (hg : w.grownBy w' row) (hne : v.ownBlock = none ∨ v.ownBlock ≠ row) : OwnStrs C w' v xs := by
  obtain ⟨o1, o2, o3⟩ := ownStrs_iff.1 h
  exact ownStrs_iff.2 ⟨o1.kept hg hne, o2, o3⟩
theorem movedI_i64 {i j : Nat} {q : Int} (hi : i ≤ 1000) (hj : j ≤ 1000) (hq : I64 q) : I64 (movedI i j q) := by
  unfold movedI
  split
  · unfold I64; omega
  · split
    · unfold I64; omega
    · exact hq
theorem take_moved {l : List Int} {i j k : Nat} {q : Int} (hk : k < l.length) (hq : nth l k = q) : (l.take (k + 1)).map (movedI i j) = (l.take k).map (movedI i j) ++ [movedI i j q] := by
  rw [List.take_succ_eq_append_getElem hk, List.map_append, List.map_singleton, ← nth_eq_getElem hk, hq]
theorem rise_len : ∀ {l : List Int} {a b : Int}, l.Pairwise (· < ·) → (∀ x ∈ l, a ≤ x ∧ x < b) → a ≤ b → (l.length : Int) ≤ b - a
  | [], a, b, _, _, h => by simp; omega
  | x :: r, a, b, h, hb, _ => by
    obtain ⟨h1, h2⟩ := List.pairwise_cons.1 h
    have h3 := hb x (List.mem_cons_self ..)
    have ih := rise_len (l := r) (a := x + 1) (b := b) h2 (fun y hy => by have := h1 y hy; have := hb y (List.mem_cons_of_mem _ hy); omega) (by omega)
    simp only [List.length_cons]
    omega
theorem res_small {n : NamesD} {l : List WishD} (h24 : n.offices.length ≤ 24) : ∀ o ∈ resL n l, 0 ≤ o.frm ∧ o.frm < 24 ∧ 0 ≤ o.dest ∧ o.dest < 24 ∧ o.against.length ≤ 24 ∧ o.against.Nodup ∧ ∀ q ∈ o.against, 0 ≤ q ∧ q < 24 := by
  intro o ho
  unfold resL at ho
  split at ho
  · rename_i h0
    obtain ⟨_, _, _, _, hr⟩ := resE_zero h0
    have hr := List.all_eq_true.1 hr o ho
    unfold rightN rightB at hr
    simp only [Bool.and_eq_true, decide_eq_true_eq] at hr
    obtain ⟨⟨⟨⟨⟨⟨⟨⟨⟨⟨⟨⟨⟨⟨⟨⟨⟨⟨a0, a1⟩, a2⟩, a3⟩, a4⟩, a5⟩, a6⟩, a7⟩, a8⟩, a9⟩, a10⟩, a11⟩, a12⟩, a13⟩, a14⟩, a15⟩, a16⟩, a17⟩, a18⟩ := hr
    obtain ⟨b1, b2⟩ := risesB_iff.1 a18
    have hnd : o.against.Nodup := b1.imp (fun h => by omega)
    refine ⟨a0, by omega, a2, by omega, ?_, hnd, fun q hq => by have := b2 q hq; omega⟩
    have := rise_len b1 (a := 0) (b := 24) (fun q hq => by have := b2 q hq; omega) (by omega)
    omega
  · cases ho
end Go.Proofs.Ytmfbabmejbppjaa
