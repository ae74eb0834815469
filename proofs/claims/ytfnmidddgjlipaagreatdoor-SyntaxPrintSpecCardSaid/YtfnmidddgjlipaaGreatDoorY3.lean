/-
  Layer 17: the walks of words and of the parser's fail, take, want.
-/
import Derived.Test.YtfnmidddgjlipaaGreatDoorY2
set_option linter.unusedVariables false
set_option linter.unusedSimpArgs false
namespace Go.Proofs.YtfnmidddgjlipaaGreatDoor
open Go.RowKit

set_option maxRecDepth 100000 in
theorem words_any (w : World) : Calls Tryz.prog 86 #[] w fun e w' => e = .returned (.slice (some ⟨w.heap.size, 0, none⟩) 13 13) ∧ w' = w.alloc (.cells (wordsL.map strV).toArray 9) := by
  go_enter Tryz.func86, Tryz.ntmps86
  go_wp2
  go_ret
  exact ⟨rfl, rfl⟩

set_option maxRecDepth 100000 in
theorem fail_any (S B : Nat) (w : World) (stop : Int) (l : List Tok) (va : Value) (x : WishD) (hS : Par S B w stop l va x) :
    Calls Tryz.prog 65 #[.pointer (some ⟨S, 0, none⟩)] w fun e w' => e = wrongE stop l ∧ w' = w := by
  obtain ⟨lv, hc, ht⟩ := hS
  have c0 := hc.cell 0
  have c1 := hc.cell 1
  simp [parC] at c0 c1
  cases l with
  | nil =>
    obtain ⟨a, c, rfl, hcm⟩ := ht.empty
    clear hc ht
    go_enter Tryz.func65, Tryz.ntmps65
    go_wp2
    exact ⟨rfl, rfl, rfl⟩
  | cons t r =>
    obtain ⟨b, off, c, rfl, hl, hcm, hbB, hok, hlen, g0, g1, g2, g3⟩ := ht.head
    clear hc ht
    have hi1 : (0 : Int) < (r.length : Int) + 1 := by omega
    go_enter Tryz.func65, Tryz.ntmps65
    go_wp2
    exact ⟨rfl, rfl, rfl⟩

theorem Par.next {S B : Nat} {w : World} {stop : Int} {va : Value} {x : WishD} {b off c : Nat} {t : Tok} {r : List Tok} (hc : CellsN w S (parC (.slice (some ⟨b, off, none⟩) (r.length + 1) c) stop va x)) (ht : IsToks B w (.slice (some ⟨b, off, none⟩) (r.length + 1) c) (t :: r)) (hB : B ≤ S) (a : Option Addr) (ha : r.length = 0 ∨ a = some ⟨b, off + 4, none⟩) :
    Par S B (w.setCell ⟨S, 0, none⟩ (.slice a r.length (c - 1))) stop r va x :=
  ⟨.slice a r.length (c - 1), by have := hc.set 0 (.slice a r.length (c - 1)); simpa [parC] using this, (ht.tail a ha).below ((Below.refl B w).setCell (p := ⟨S, 0, none⟩) hB _) (Nat.le_refl _)⟩
/-- the parser goes one token on -/
def TakePost (S B : Nat) (w : World) (stop : Int) (l : List Tok) (va : Value) (x : WishD) (s : Str) (e : Ending) (w' : World) : Prop :=
  e = .returned (.bool (pTake s l).isSome) ∧ Par S B w' stop ((pTake s l).getD l) va x ∧ w.grownBy w' (some S)

set_option maxHeartbeats 1000000 in
set_option maxRecDepth 100000 in
theorem take_any (S B : Nat) (w : World) (stop : Int) (l : List Tok) (va : Value) (x : WishD) (s : Str) (hS : Par S B w stop l va x) (hB : B ≤ S) :
    Calls Tryz.prog 64 #[.pointer (some ⟨S, 0, none⟩), strV s] w (TakePost S B w stop l va x s) := by
  have HS := Lib.hid hS
  obtain ⟨lv, hc, ht⟩ := hS
  have c0 := hc.cell 0
  have f0 := hc.free 0
  simp [parC] at c0
  cases l with
  | nil =>
    obtain ⟨a, c, rfl, hcm⟩ := ht.empty
    clear hc ht
    go_enter Tryz.func64, Tryz.ntmps64
    go_wp2
    go_ret
    exact ⟨rfl, HS.out, grown_refl _ _⟩
  | cons t r =>
    obtain ⟨b, off, c, rfl, hl, hcm, hbB, hok, hlen, g0, g1, g2, g3⟩ := ht.head
    have HC := Lib.hid hc
    have HT := Lib.hid ht
    clear hc ht
    obtain ⟨tk, htk⟩ : ∃ k, t.kind = k := ⟨_, rfl⟩
    obtain ⟨tt, htt⟩ : ∃ k, t.text = k := ⟨_, rfl⟩
    have HK : Hid (isT t s = (tk != 2 && tt == s)) := Lib.hid (by unfold isT; rw [htk, htt])
    rw [htk] at g0
    rw [htt] at g1
    clear htk htt
    have hi1 : (0 : Int) < (r.length : Int) + 1 := by omega
    by_cases hk : tk = 2
    · have hkb : (tk != 2) = false := by simpa using hk
      have HF : Hid (pTake s (t :: r) = none) := Lib.hid (by rw [take_cons, HK.out, hkb]; rfl)
      clear hk
      go_enter Tryz.func64, Tryz.ntmps64
      go_wp2
      go_ret
      unfold TakePost
      rw [HF.out]
      exact ⟨rfl, HS.out, grown_refl _ _⟩
    · have hkb : (tk != 2) = true := by simpa using hk
      by_cases hs : tt = s
      · have hsb : (tt == s) = true := by simpa using hs
        have HF : Hid (pTake s (t :: r) = some r) := Lib.hid (by rw [take_cons, HK.out, hkb, hsb]; rfl)
        subst hs
        clear hk hsb
        by_cases hc1 : c = 1
        · subst hc1
          obtain rfl : r = [] := List.length_eq_zero_iff.1 (by omega)
          go_enter Tryz.func64, Tryz.ntmps64
          go_wp2
          go_ret
          unfold TakePost
          rw [HF.out]
          exact ⟨rfl, Par.next HC.out HT.out hB (some ⟨b, off, none⟩) (.inl rfl), grown_setCell _ _ _⟩
        · go_enter Tryz.func64, Tryz.ntmps64
          go_wp2
          go_ret
          unfold TakePost
          rw [HF.out]
          exact ⟨rfl, Par.next HC.out HT.out hB (some ⟨b, off + 4, none⟩) (.inr rfl), grown_setCell _ _ _⟩
      · have hsb : (tt == s) = false := by simpa using hs
        have HF : Hid (pTake s (t :: r) = none) := Lib.hid (by rw [take_cons, HK.out, hkb, hsb]; rfl)
        have hss : ¬ tt = s := hs
        clear hk hs
        go_enter Tryz.func64, Tryz.ntmps64
        go_wp2
        go_ret
        unfold TakePost
        rw [HF.out]
        exact ⟨rfl, HS.out, grown_refl _ _⟩

/-- what a part of the parser without a value leaves -/
def WantPost (S B : Nat) (w : World) (stop : Int) (l : List Tok) (va : Value) (x : WishD) (s : Str) (e : Ending) (w' : World) : Prop :=
  w.grownBy w' (some S) ∧ match pTake s l with
    | some r => e = .returned (.tuple #[]) ∧ Par S B w' stop r va x
    | none => e = wrongE stop l
set_option maxHeartbeats 1000000 in
set_option maxRecDepth 100000 in
theorem want_any (S B : Nat) (w : World) (stop : Int) (l : List Tok) (va : Value) (x : WishD) (s : Str) (hS : Par S B w stop l va x) (hB : B ≤ S) :
    Calls Tryz.prog 38 #[.pointer (some ⟨S, 0, none⟩), strV s] w (WantPost S B w stop l va x s) := by
  have HS := Lib.hid hS
  clear hS
  go_enter Tryz.func38, Tryz.ntmps38
  go_wp2_with fail
  refine (take_any S B w stop l va x s HS.out hB).mono ?_
  rintro e w1 ⟨rfl, hp, hg⟩
  have HG := Lib.hid hg
  clear hg
  cases h : pTake s l with
  | none =>
    rw [h] at hp
    simp only [Option.getD_none, Option.isSome_none] at hp ⊢
    have HP := Lib.hid hp
    have HE := Lib.hid h
    clear hp h
    go_wp2_with fail
    refine (fail_any S B w1 stop l va x HP.out).mono ?_
    rintro e w2 ⟨rfl, rfl⟩
    go_wp2
    exact ⟨rfl, HG.out, by rw [HE.out]⟩
  | some r =>
    rw [h] at hp
    simp only [Option.getD_some, Option.isSome_some] at hp ⊢
    have HP := Lib.hid hp
    have HE := Lib.hid h
    clear hp h
    go_wp2
    first | go_end0 | refine bodyPost_ret (results_none rfl _ _ _) rfl ?_
    refine ⟨HG.out, ?_⟩
    rw [HE.out]
    exact ⟨rfl, HP.out⟩
end Go.Proofs.YtfnmidddgjlipaaGreatDoor
