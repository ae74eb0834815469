/-
  Layer 17, plain: the chapter's examples; wishes in a block (printed by tools/geny20.py).
-/
import Derived.Test.YtfnmidddgjlipaaGreatDoorY19
set_option linter.unusedVariables false
set_option linter.unusedSimpArgs false
namespace Go.Proofs.YtfnmidddgjlipaaGreatDoor
open Go.RowKit

def src_s1 : Str := []
def src_s2 : Str := [108, 101, 116, 116, 101, 114, 32, 97, 32, 116, 111, 32, 98]
def src_s3 : Str := [108, 101, 116, 116, 101, 114, 32, 97, 32, 102, 114, 111, 109, 32, 120, 32, 116, 111, 32, 98, 111, 32, 99, 108, 97, 115, 115, 32, 115, 108, 111, 119, 32, 97, 102, 116, 101, 114, 32, 50, 48, 57, 55, 49, 53, 50]
def src_s4 : Str := [108, 101, 116, 116, 101, 114, 32, 112, 97, 121]
def src_s5 : Str := [108, 101, 116, 116, 101, 114, 32, 97, 32, 102, 114, 111, 109, 32, 120, 32, 116, 111, 32, 98, 111, 32, 99, 108, 97, 115, 115, 32, 115, 108, 111, 119, 32, 97, 102, 116, 101, 114, 32, 48, 32, 98, 121, 32, 57, 32, 99, 114, 111, 119, 100, 32, 50, 32, 97, 103, 97, 105, 110, 115, 116, 32, 120, 32, 44, 32, 121, 32, 112, 97, 121, 32, 55, 32, 98, 97, 99, 107, 32, 101, 108, 115, 101, 32, 104, 111, 108, 100, 32, 59]
def src_s6 : Str := [108, 101, 116, 116, 101, 114, 32, 97, 32, 102, 114, 111, 109, 32, 120, 32, 116, 111, 32, 98, 111, 32, 99, 108, 97, 115, 115, 32, 99, 32, 97, 102, 116, 101, 114, 32, 49, 32, 98, 121, 32, 50, 32, 99, 114, 111, 119, 100, 32, 54, 52, 32, 112, 97, 121, 32, 48, 59, 108, 101, 116, 116, 101, 114, 32, 98, 32, 102, 114, 111, 109, 32, 121, 32, 116, 111, 32, 97, 108, 32, 99, 108, 97, 115, 115, 32, 99, 32, 97, 102, 116, 101, 114, 32, 50, 48, 57, 55, 49, 53, 49, 32, 98, 121, 32, 48, 32, 99, 114, 111, 119, 100, 32, 48, 32, 112, 97, 121, 32, 49, 32, 101, 108, 115, 101, 32, 102, 111, 114, 119, 97, 114, 100, 59]
def exWant : WishD := ⟨[97], [120], [98, 111], [115, 108, 111, 119], 0, 9, 2, 7, [[120], [121]], true, 1⟩
def exA : WishD := ⟨[97], [120], [98, 111], [99], 1, 2, 64, 0, [], false, 0⟩
def exB : WishD := ⟨[98], [121], [97, 108], [99], 2097151, 0, 0, 1, [], false, 2⟩
def exZ : WishD := ⟨[], [], [], [], 0, 0, 0, 0, [], false, 0⟩
set_option maxRecDepth 100000 in
theorem ex_s1 : parP src_s1 = 0 ∧ parE src_s1 = 0 ∧ parL src_s1 = [] := by decide +kernel
set_option maxRecDepth 100000 in
theorem ex_s2 : parP src_s2 = 9 ∧ parE src_s2 = 170 ∧ parL src_s2 = [] := by decide +kernel
set_option maxRecDepth 100000 in
theorem ex_s3 : parP src_s3 = 39 ∧ parE src_s3 = 170 ∧ parL src_s3 = [] := by decide +kernel
set_option maxRecDepth 100000 in
theorem ex_s4 : parP src_s4 = 7 ∧ parE src_s4 = 170 ∧ parL src_s4 = [] := by decide +kernel
set_option maxRecDepth 100000 in
theorem ex_s5 : parP src_s5 = 0 ∧ parE src_s5 = 0 ∧ parL src_s5 = [exWant] := by decide +kernel
set_option maxRecDepth 100000 in
theorem ex_s6 : parP src_s6 = 0 ∧ parE src_s6 = 0 ∧ parL src_s6 = [exA, exB] := by decide +kernel
set_option maxRecDepth 100000 in
theorem ex_print : prS [exWant] = src_s5 ∧ prE [exWant] = 0 ∧ prE [exZ] = 170 := by decide +kernel
theorem ex_same : sameWs [exA, exB] [exA, exB] = true ∧ sameWs [exA, exB] [exWant] = false ∧ sameWs [exWant] [exWant] = true ∧ sameWs ([] : List WishD) [] = true := by decide +kernel
/-- Parse at a source that was reckoned -/
theorem parse_at (src : ByteArray) (s : Str) (P E : Int) (L : List WishD) (W : World) (hs : src.data.toList = s) (hL : LaidW W) (hsz : src.size ≤ 9223372036854775806) (h : parP s = P ∧ parE s = E ∧ parL s = L) :
    Calls Tryz.prog 6 #[.string src] W fun e w' => ∃ a c, e = .returned (.tuple #[.slice a L.length c, .int .i64 P, .int .i64 E]) ∧ IsWishes w'.heap.size w' (.slice a L.length c) L ∧ Below W.heap.size W w' := by
  refine (parse_any src W hL hsz).mono ?_
  rintro e w' ⟨v, he, ho, hb⟩
  rw [hs] at he ho
  rw [h.1, h.2.1] at he
  rw [h.2.2] at ho
  obtain ⟨a, c, rfl⟩ := ho.form
  exact ⟨a, c, he, ownWs_is ho, hb⟩
/-- wishes in a block -/
theorem wishes_of {B b : Nat} {w : World} (vs : List (Value × WishD)) (hc : CellsN w b ((vs.map fun p => wishC p.1 p.2).flatten).toArray) (hb : b < B) (h : ∀ p ∈ vs, IsStrs B w p.1 p.2.against ∧ okW p.2) (hl : vs.length ≤ 1000) {n : Nat} (hn : n = vs.length) (l : List WishD) (hle : l = vs.map (·.2)) :
    IsWishes B w (.slice (some ⟨b, 0, none⟩) n n) l := by
  subst hn hle
  refine ⟨b, 0, vs.length, ⟨_, by simp, by simp, by omega, Or.inl rfl⟩, by simp; omega, fun j hj => ?_⟩
  have hj' : j < vs.length := by simpa using hj
  have hp := h vs[j] (List.getElem_mem hj')
  refine ⟨wishC vs[j].1 vs[j].2, fun q u hq => ⟨hb, ?_⟩, ?_⟩
  · rw [hc.cell, Nat.zero_add]
    have hq11 : q < 11 := by
      have := (List.getElem?_eq_some_iff.1 hq).1
      simpa [wishC] using this
    have := flat_getK (k := 11) (vals := vs.map fun p => wishC p.1 p.2) (by intro c hc; obtain ⟨p, _, rfl⟩ := List.mem_map.1 hc; rfl) j q (by simpa using hj') hq11
    rw [List.getElem?_toArray, this, List.getD_eq_getElem?_getD, List.getElem?_map, List.getElem?_eq_getElem hj']
    exact hq
  · have e : (vs.map (·.2)).getD j default = vs[j].2 := by
      rw [List.getD_eq_getElem?_getD, List.getElem?_map, List.getElem?_eq_getElem hj']; rfl
    rw [e]
    exact ⟨vs[j].1, rfl, hp.1, hp.2⟩
theorem strs_of {B b : Nat} {w : World} {xs : List Str} {c : Nat} (h : CellsN w b (xs.map strV).toArray) (hb : b < B) (hc : xs.length ≤ c) (hm : c ≤ 1000) (hx : ∀ x ∈ xs, x.length ≤ 1000) {n : Nat} (hn : n = xs.length) : IsStrs B w (.slice (some ⟨b, 0, none⟩) n c) xs := by
  subst hn
  refine ⟨b, 0, c, ⟨_, rfl, hc, by omega, Or.inl rfl⟩, by omega, fun j hj => ⟨[strV (xs.getD j [])], fun q u hq => ?_, rfl, ?_⟩⟩
  · match q, hq with
    | 0, hq =>
      simp at hq
      subst hq
      refine ⟨hb, ?_⟩
      rw [h.cell]
      simp [List.getElem?_eq_getElem hj]
  · have := hx xs[j] (List.getElem_mem hj)
    rw [List.getD_eq_getElem?_getD, List.getElem?_eq_getElem hj]
    simp
    omega
end Go.Proofs.YtfnmidddgjlipaaGreatDoor
