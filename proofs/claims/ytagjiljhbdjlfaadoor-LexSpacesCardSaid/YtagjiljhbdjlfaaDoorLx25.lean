/-
  Layer 3, plain: white space and comments have no tokens.
-/
import Derived.Test.YtagjiljhbdjlfaaDoorLx23
import Derived.Test.YtagjiljhbdjlfaaDoorLo
import Derived.Deep.Slices
set_option linter.unusedVariables false
set_option linter.unusedSimpArgs false
namespace Go.Proofs.YtagjiljhbdjlfaaDoor

def skipB (g : List UInt8) : Prop := ∀ r at_, lexA (g ++ r) at_ = lexA r (at_ + g.length)
theorem skip_nil : skipB [] := fun r at_ => rfl
theorem skip_app {a b : List UInt8} (ha : skipB a) (hb : skipB b) : skipB (a ++ b) := fun r at_ => by
  rw [List.append_assoc, ha, hb, List.length_append, Nat.add_assoc]
theorem skip_spc {c : UInt8} (h : isSpc c = true) : skipB [c] := fun r at_ => lexA_spc h
theorem skip_com {p : List UInt8} (h : ∀ b ∈ p, (b != 10) = true) : skipB (47 :: 47 :: p ++ [10]) := fun r at_ => by
  have hc : comLen (47 :: 47 :: (p ++ 10 :: r)) = p.length + 2 := by
    unfold comLen
    have : (p ++ 10 :: r).takeWhile (fun c : UInt8 => c != 10) = p := by
      rw [List.takeWhile_append_of_pos h]
      simp
    simp [List.takeWhile_cons, this]
  have hs : stepL (47 :: 47 :: (p ++ 10 :: r)) = some (p.length + 2, none) := by
    simp only [stepL]
    rw [if_neg (by decide)]
    have : ((47 : UInt8) == 47 && (47 :: (p ++ 10 :: r)).head? == some 47) = true := by simp
    rw [if_pos this, hc]
  have e : 47 :: 47 :: p ++ [10] ++ r = 47 :: 47 :: (p ++ 10 :: r) := by simp
  rw [e, lexA_step hs]
  show lexA _ _ = _
  rw [show p.length + 2 = ((47 : UInt8) :: 47 :: p).length by simp]
  rw [show (47 : UInt8) :: 47 :: (p ++ 10 :: r) = (47 :: 47 :: p) ++ (10 :: r) by simp, List.drop_left, lexA_spc rfl]
  rw [show at_ + ((47 : UInt8) :: 47 :: p).length + 1 = at_ + (47 :: 47 :: p ++ [(10 : UInt8)]).length by simp; omega]

def gapsOf (wd : List UInt8) : List (List UInt8) := [[32], [9], [10], [13, 10], [32, 32], 47 :: 47 :: wd ++ [10], [32, 47, 47, 32, 10], [10, 47, 47, 10]]
theorem gaps_skip {wd : List UInt8} (h : ∀ b ∈ wd, (b != 10) = true) : ∀ g ∈ gapsOf wd, skipB g := by
  have s32 : skipB [32] := skip_spc rfl
  have s9 : skipB [9] := skip_spc rfl
  have s10 : skipB [10] := skip_spc rfl
  have s13 : skipB [13] := skip_spc rfl
  intro g hg
  simp only [gapsOf, List.mem_cons, List.not_mem_nil, or_false] at hg
  rcases hg with rfl | rfl | rfl | rfl | rfl | rfl | rfl | rfl
  · exact s32
  · exact s9
  · exact s10
  · exact skip_app s13 s10
  · exact skip_app s32 s32
  · exact skip_com h
  · exact skip_app (b := 47 :: 47 :: [32] ++ [10]) s32 (skip_com (p := [32]) (by simp))
  · exact skip_app (b := 47 :: 47 :: [] ++ [10]) s10 (skip_com (p := []) (by simp))
theorem gaps_len {wd : List UInt8} {m : Nat} (hm : wd.length ≤ m) : ∀ g ∈ gapsOf wd, g.length ≤ m + 5 := by
  intro g hg
  simp only [gapsOf, List.mem_cons, List.not_mem_nil, or_false] at hg
  rcases hg with rfl | rfl | rfl | rfl | rfl | rfl | rfl | rfl <;> simp <;> omega

def pieces (ps : List (Tok × List UInt8)) : List UInt8 := ps.flatMap fun p => txt p.1 ++ [32] ++ p.2
theorem pieces_lex : ∀ (ps : List (Tok × List UInt8)) (at_ : Nat), (∀ p ∈ ps, validB p.1 = true ∧ skipB p.2) → ∃ T, lexA (pieces ps) at_ = (T, none) ∧ T.map erase = (ps.map (·.1)).map erase
  | [], at_, _ => ⟨[], rfl, rfl⟩
  | (t, g) :: ps, at_, h => by
    obtain ⟨hv, hg⟩ := h (t, g) (by simp)
    have e : pieces ((t, g) :: ps) = txt t ++ (32 :: (g ++ pieces ps)) := by simp [pieces]
    have hs := step_txt (t := t) (r := 32 :: (g ++ pieces ps)) hv rfl
    obtain ⟨T, h1, h2⟩ := pieces_lex ps (at_ + (txt t).length + 1 + g.length) (fun p hp => h p (by simp [hp]))
    refine ⟨{ t with pos := (at_ : Int) } :: T, ?_, ?_⟩
    · rw [e, lexA_step hs, List.drop_left, lexA_spc rfl, hg, h1]
      rfl
    · simp only [List.map_cons, h2]
      rfl

/-- the gap behind token i -/
def gapAt (wd : List UInt8) (us : List Int) (i : Nat) : List UInt8 := if i < us.length then (gapsOf wd).getD (us.getD i 0 % 8).toNat [] else [32]
theorem gapAt_mem {wd : List UInt8} (us : List Int) (i : Nat) : gapAt wd us i ∈ gapsOf wd := by
  unfold gapAt
  split
  · rw [List.getD_eq_getElem?_getD, List.getElem?_eq_getElem (by simp only [gapsOf, List.length_cons, List.length_nil]; omega)]
    exact List.getElem_mem _
  · simp [gapsOf]
def headS (ts : List Tok) (wd : List UInt8) (us : List Int) (k : Nat) : List UInt8 := 10 :: pieces ((List.range k).map fun i => (tokAt ts i, gapAt wd us i))
theorem headS_zero (ts : List Tok) (wd : List UInt8) (us : List Int) : headS ts wd us 0 = [10] := rfl
theorem headS_succ (ts : List Tok) (wd : List UInt8) (us : List Int) (k : Nat) : headS ts wd us (k + 1) = headS ts wd us k ++ (txt (tokAt ts k) ++ [32] ++ gapAt wd us k) := by
  unfold headS pieces
  rw [List.range_succ, List.map_append, List.flatMap_append]
  simp
theorem pieces_len : ∀ (ps : List (Tok × List UInt8)) (m : Nat), (∀ p ∈ ps, p.2.length ≤ m) → (pieces ps).length ≤ (ps.map fun p => (txt p.1).length).sum + ps.length * (m + 1)
  | [], m, _ => by simp [pieces]
  | (t, g) :: ps, m, h => by
    have ih := pieces_len ps m (fun p hp => h p (by simp [hp]))
    have hg := h (t, g) (by simp)
    have e : pieces ((t, g) :: ps) = txt t ++ (32 :: (g ++ pieces ps)) := by simp [pieces]
    rw [e]
    simp only [List.length_append, List.length_cons, List.map_cons, List.sum_cons] at ih ⊢
    rw [Nat.add_mul ps.length 1 (m + 1), Nat.one_mul]
    simp only at hg
    omega
theorem range_tok (ts : List Tok) : (List.range ts.length).map (tokAt ts) = ts := by
  apply List.ext_getElem (by simp)
  intro i h1 h2
  simp [tokAt_get h2]
theorem sum_take_le (ts : List Tok) (f : Tok → Nat) : ∀ k, k ≤ ts.length → ((List.range k).map fun i => f (tokAt ts i)).sum ≤ (ts.map f).sum := by
  intro k hk
  have e : (List.range k).map (fun i => f (tokAt ts i)) = (ts.take k).map f := by
    apply List.ext_getElem (by simp; omega)
    intro i h1 h2
    simp at h1
    simp [tokAt_get (show i < ts.length by omega)]
  rw [e]
  have : (ts.map f).sum = ((ts.take k).map f).sum + ((ts.drop k).map f).sum := by
    conv => lhs; rw [← List.take_append_drop k ts]
    rw [List.map_append, List.sum_append]
  omega
theorem headS_len {ts : List Tok} {wd : List UInt8} {us : List Int} (hf : fewB ts = true) (hw : wd.length ≤ 100) {k : Nat} (hk : k ≤ ts.length) (hv : ∀ j, j < k → validB (tokAt ts j) = true) : (headS ts wd us k).length ≤ 40000 := by
  unfold headS
  rw [List.length_cons]
  have h1 := pieces_len ((List.range k).map fun i => (tokAt ts i, gapAt wd us i)) 105 (fun p hp => by
    obtain ⟨i, _, rfl⟩ := List.mem_map.1 hp
    exact gaps_len hw _ (gapAt_mem us i))
  rw [List.map_map, List.length_map, List.length_range] at h1
  have h2 := sum_take_le ts (fun t => t.text.length) k hk
  have h3 : ((List.range k).map ((fun p : Tok × List UInt8 => (txt p.1).length) ∘ fun i => (tokAt ts i, gapAt wd us i))).sum ≤ ((List.range k).map fun i => (tokAt ts i).text.length).sum + 13 * k := by
    have key : ∀ q, q ≤ k → ((List.range q).map ((fun p : Tok × List UInt8 => (txt p.1).length) ∘ fun i => (tokAt ts i, gapAt wd us i))).sum ≤ ((List.range q).map fun i => (tokAt ts i).text.length).sum + 13 * q := by
      intro q
      induction q with
      | zero => intro _; simp
      | succ q ih =>
        intro hq
        have i1 := ih (by omega)
        have i2 := txt_len2 (hv q (by omega))
        rw [List.range_succ, List.map_append, List.map_append, List.sum_append, List.sum_append]
        simp only [List.map_cons, List.map_nil, List.sum_cons, List.sum_nil, Function.comp_apply] at i1 ⊢
        omega
    exact key k (Nat.le_refl _)
  unfold fewB at hf
  simp only [Bool.and_eq_true, decide_eq_true_eq] at hf
  rw [sumLen_all] at hf
  have : k * (105 + 1) ≤ 200 * (105 + 1) := Nat.mul_le_mul_right _ (by omega)
  omega
theorem spaces_law {ts : List Tok} {wd : List UInt8} {us : List Int} (hf : fewB ts = true) (hw : wd.length ≤ 100) (hw10 : ∀ b ∈ wd, (b != 10) = true) (hv : ∀ j, j < ts.length → validB (tokAt ts j) = true) :
    lexE (headS ts wd us ts.length) = 0 ∧ lexP (headS ts wd us ts.length) = 0 ∧ sameT ts (lexT (headS ts wd us ts.length)) = true := by
  have hl := headS_len (us := us) hf hw (Nat.le_refl _) hv
  obtain ⟨T, h1, h2⟩ := pieces_lex ((List.range ts.length).map fun i => (tokAt ts i, gapAt wd us i)) 1 (fun p hp => by
    obtain ⟨i, hi, rfl⟩ := List.mem_map.1 hp
    exact ⟨hv i (List.mem_range.1 hi), gaps_skip hw10 _ (gapAt_mem us i)⟩)
  have h3 : lexA (headS ts wd us ts.length) 0 = (T, none) := by
    unfold headS
    rw [lexA_spc rfl, h1]
  obtain ⟨e1, e2, e3⟩ := lex_none (l := headS ts wd us ts.length) (by rw [h3]) (by omega)
  refine ⟨e1, e2, ?_⟩
  rw [e3, h3]
  refine sameT_iff.2 ?_
  rw [h2]
  have e : ((List.range ts.length).map fun i => (tokAt ts i, gapAt wd us i)).map (·.1) = ts := by
    rw [List.map_map]
    exact range_tok ts
  rw [e]

/-! ### bytes that came in -/
open Go.ChangeShapes Go.WideShapes Go.ChangeAt Go.RowKit Go.Deep
def IsU8s (B : Nat) (w : World) (v : Value) (us : List Int) : Prop :=
  ∃ b off cap, SliceV v us.length b off cap ∧ us.length ≤ 140737488351232 ∧ (∀ x ∈ us, (0 : Int) ≤ x ∧ x ≤ 255) ∧ ∀ j, j < us.length → CellB B w b (off + j) (.int .u8 (us.getD j 0))
theorem IsU8s.below {B B' : Nat} {w w' : World} {v : Value} {us : List Int} (h : IsU8s B w v us) (hb : Below B' w w') (hB : B ≤ B') : IsU8s B w' v us := by
  obtain ⟨b, off, cap, h1, h2, h3, h4⟩ := h
  exact ⟨b, off, cap, h1, h2, h3, fun j hj => (h4 j hj).below hb hB⟩
theorem IsU8s.form {B : Nat} {w : World} {v : Value} {us : List Int} (h : IsU8s B w v us) : ∃ a c, v = .slice a us.length c ∧ us.length ≤ c ∧ c ≤ 9223372036854775807 ∧ us.length ≤ 140737488351232 := by
  obtain ⟨b, off, cap, ⟨a, rfl, h2, h3, h4⟩, h5, _⟩ := h
  exact ⟨a, cap, rfl, h2, h3, h5⟩
theorem IsU8s.cell {B : Nat} {w : World} {a : Option Addr} {c : Nat} {us : List Int} (h : IsU8s B w (.slice a us.length c) us) {k : Nat} (hk : k < us.length) : ∃ b off u, a = some ⟨b, off, none⟩ ∧ b < B ∧ u = us.getD k 0 ∧ 0 ≤ u ∧ u ≤ 255 ∧ w.cell? ⟨b, off + k, none⟩ = some (.int .u8 u) := by
  obtain ⟨b, off, cap, ⟨a', he, h2, h3, h4⟩, h5, h6, h7⟩ := h
  cases he
  have hm : us.getD k 0 ∈ us := by rw [List.getD_eq_getElem?_getD, List.getElem?_eq_getElem hk]; exact List.getElem_mem hk
  obtain ⟨m1, m2⟩ := h6 _ hm
  refine ⟨b, off, _, ?_, (h7 k hk).1, rfl, m1, m2, (h7 k hk).2⟩
  rcases h4 with h4 | h4
  · exact h4
  · omega

variable {H : Type} {enc : TypeId × Value → H} {w : World}
theorem open_bytes {fuel : Nat} {v : Value} {x : DataW H × List MemPlace} (h : DataW.trod enc Tryd.prog w 0 (fun _ => true) true fuel 39 [v] = some x)
    (hsz : ∀ n ∈ x.1.weights Tryd.prog 39, n ≤ reachBytes) : ∃ us, IsU8s w.heap.size w v us := by
  have hb : Tryd.prog.bytesOf 5 = 1 := by kernel_rfl
  rcases open_ints Tryd.underlying39 Tryd.underlying5 (by kernel_rfl) h with ⟨hv, rfl⟩ | ⟨a, len, cap, zs, hv, _, hl, hm, hzl, rfl, hcell, hwf⟩
  · cases hv
    exact ⟨[], 0, 0, 0, ⟨none, rfl, Nat.le_refl _, by omega, Or.inr rfl⟩, by simp, by simp, fun j hj => by simp at hj⟩
  · cases hv
    simp only [if_true] at hzl
    have h8 := hsz (((lits .u8 (zs.take len) : List (DataW H)).length + (lits .u8 (zs.drop len) : List (DataW H)).length) * Tryd.prog.bytesOf 5) (by simp only [DataW.weights, Tryd.underlying39]; exact List.mem_cons_self)
    rw [hb] at h8
    have hlt : (lits .u8 (zs.take len) : List (DataW H)).length = len := by simp [lits]; omega
    have hld : (lits .u8 (zs.drop len) : List (DataW H)).length = cap - len := by simp [lits]; omega
    rw [hlt, hld] at h8
    unfold reachBytes at h8
    have hn : (zs.take len).length = len := by simp; omega
    refine ⟨zs.take len, a.block, a.off, cap, ⟨some a, by rw [hn], by omega, by unfold maxLen at hm; omega, ?_⟩, by omega, fun y hy => ?_, fun j hj => ?_⟩
    · by_cases h0 : len = 0
      · exact Or.inr (by omega)
      · have := (cell_spot (hcell 0 (by omega))).1
        left
        obtain ⟨b, o, sp⟩ := a
        simp [Addr.add] at this
        rw [this]
    · have := hwf y (List.mem_of_mem_take hy)
      simp [Lit.wf, IntKind.min, IntKind.max, IntKind.signed, IntKind.bits] at this
      omega
    · rw [hn] at hj
      have hc := hcell j (by omega)
      have h0 := (cell_spot (hcell 0 (by omega))).1
      have hb2 := (cell_spot hc).2
      obtain ⟨b, o, sp⟩ := a
      simp [Addr.add] at h0
      subst h0
      rw [add_plain] at hc hb2
      refine ⟨hb2, ?_⟩
      rw [hc]
      rw [List.getD_eq_getElem?_getD, List.getD_eq_getElem?_getD, List.getElem?_take, if_pos hj]
set_option maxRecDepth 100000 in
theorem open_IsBytes {r : Reach} {b0 : Nat} {v : Value} {d : DataW H} {p : List MemPlace} (hv : Value.okWide Tryd.prog w r b0 39 v) (h : DataW.Trod enc Tryd.prog w 0 (fun _ => true) true 39 v d p)
    (hsz : ∀ n ∈ d.weights Tryd.prog 39, n ≤ reachBytes) : ∃ us, IsU8s w.heap.size w v us := by
  obtain ⟨fuel, hf⟩ := h
  obtain ⟨a, l, c, rfl⟩ := okWide_slice Tryd.underlying39 hv
  exact open_bytes hf hsz
end Go.Proofs.YtagjiljhbdjlfaaDoor
