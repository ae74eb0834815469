/-
  Layer 3: the walks of frankingref03.Same, Equal.
-/
import Derived.Test.YtfnmidddgjlipaaGreatDoorLx12
set_option linter.unusedVariables false
set_option linter.unusedSimpArgs false
namespace Go.Proofs.YtfnmidddgjlipaaGreatDoor
open Go.RowKit

theorem map_take_succ {xs : List Tok} {k : Nat} (h : k < xs.length) : (xs.take (k + 1)).map erase = (xs.take k).map erase ++ [erase (tokAt xs k)] := by
  rw [List.take_succ_eq_append_getElem h, List.map_append, tokAt_get h]; rfl
theorem sameT_succ {xs ys : List Tok} {k : Nat} (h : sameT (xs.take k) (ys.take k) = true) (h1 : k < xs.length) (h2 : k < ys.length) (he : erase (tokAt xs k) = erase (tokAt ys k)) : sameT (xs.take (k + 1)) (ys.take (k + 1)) = true := by
  rw [sameT_iff] at *
  rw [map_take_succ h1, map_take_succ h2, h, he]
theorem sameT_at {xs ys : List Tok} (h : sameT xs ys = true) {k : Nat} (h1 : k < xs.length) : erase (tokAt xs k) = erase (tokAt ys k) := by
  rw [sameT_iff] at h
  have hl : xs.length = ys.length := by have := congrArg List.length h; simpa using this
  have := congrArg (fun l => l[k]?) h
  simp only [List.getElem?_map] at this
  rw [List.getElem?_eq_getElem h1, List.getElem?_eq_getElem (by omega)] at this
  rw [tokAt_get h1, tokAt_get (by omega)]
  simpa using this
theorem sameT_not {xs ys : List Tok} {k : Nat} (h1 : k < xs.length) (he : erase (tokAt xs k) ≠ erase (tokAt ys k)) : sameT xs ys = false := by
  cases h : sameT xs ys with
  | false => rfl
  | true => exact absurd (sameT_at h h1) he
theorem sameT_all {xs ys : List Tok} {k : Nat} (h : sameT (xs.take k) (ys.take k) = true) (h1 : xs.length ≤ k) (h2 : ys.length ≤ k) : sameT xs ys = true := by
  rw [List.take_of_length_le h1, List.take_of_length_le h2] at h; exact h
theorem sameT_len {xs ys : List Tok} (h : xs.length ≠ ys.length) : sameT xs ys = false := by
  cases e : sameT xs ys with
  | false => rfl
  | true =>
    rw [sameT_iff] at e
    have := congrArg List.length e
    simp at this
    exact absurd this h
theorem erase_eq {a b : Tok} : erase a = erase b ↔ a.kind = b.kind ∧ a.text = b.text ∧ a.n = b.n := by
  obtain ⟨k, x, n, p⟩ := a
  obtain ⟨k', x', n', p'⟩ := b
  simp [erase]

/-- the cells of token k -/
theorem IsToks.cells {B : Nat} {w : World} {a : Option Addr} {c : Nat} {ts : List Tok} (h : IsToks B w (.slice a ts.length c) ts) {k : Nat} (hk : k < ts.length) : ∃ b off, a = some ⟨b, off, none⟩ ∧ b < B ∧
    w.cell? ⟨b, off + k * 4, none⟩ = some (.int .i64 (tokAt ts k).kind) ∧ w.cell? ⟨b, off + k * 4 + 1, none⟩ = some (strV (tokAt ts k).text) ∧ w.cell? ⟨b, off + k * 4 + 2, none⟩ = some (.int .i64 (tokAt ts k).n) ∧ w.cell? ⟨b, off + k * 4 + 3, none⟩ = some (.int .i64 (tokAt ts k).pos) := by
  obtain ⟨b, off, cap, ⟨a', he, hcap, hmax, ha⟩, h2, h3, h4⟩ := h
  injection he with e1 e2 e3
  subst e1
  rcases ha with ha | ha
  · obtain ⟨g1, g2, g3, g4⟩ := h4 k hk
    exact ⟨b, off, ha, g1.1, g1.2, g2.2, g3.2, g4.2⟩
  · omega
theorem IsToks.form {B : Nat} {w : World} {v : Value} {ts : List Tok} (h : IsToks B w v ts) : ∃ a c, v = .slice a ts.length c ∧ ts.length ≤ c ∧ c ≤ 9223372036854775807 ∧ ts.length ≤ 3518437208800 := by
  obtain ⟨b, off, cap, ⟨a', he, hcap, hmax, ha⟩, h2, h3, h4⟩ := h
  exact ⟨a', cap, he, hcap, hmax, h2⟩
theorem IsToks.ok {B : Nat} {w : World} {v : Value} {ts : List Tok} (h : IsToks B w v ts) {k : Nat} (hk : k < ts.length) : okT (tokAt ts k) := by
  obtain ⟨b, off, cap, _, h2, h3, h4⟩ := h
  rw [tokAt_get hk]
  exact h3 _ (List.getElem_mem hk)
theorem IsToks.drew {B : Nat} {w w' : World} {v : Value} {ts : List Tok} (h : IsToks B w v ts) (hd : Drew w w') : IsToks B w' v ts := h.below (hd.below B) (Nat.le_refl _)

end Go.Proofs.YtfnmidddgjlipaaGreatDoor
