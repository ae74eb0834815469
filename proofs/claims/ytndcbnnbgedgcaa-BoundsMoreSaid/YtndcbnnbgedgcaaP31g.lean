/-
  Layer 31: the walk of sort.Search.
-/
import Derived.Test.YtndcbnnbgedgcaaP31f
set_option linter.unusedVariables false
set_option linter.unusedSimpArgs false
namespace Go.Proofs.Ytndcbnnbgedgcaa
open Go.RowKit

/-- a function value that answers p at 0, .., n - 1 -/
def OkPred (P : Program) (g : FuncId) (cap : Array Value) (w : World) (n : Nat) (p : Nat → Bool) : Prop :=
  (∀ args W, (callFunc g args).run P W = .ok (.enter g args) W) ∧
  ∀ W k, Below w.heap.size w W → k < n → Calls P g (#[.int .i64 ((k : Nat) : Int)] ++ cap) W fun e W' => e = .returned (.bool (p k)) ∧ Below W.heap.size W W'
def SearchAns (p : Nat → Bool) (n r : Nat) : Prop := r ≤ n ∧ (r = 0 ∨ p (r - 1) = false) ∧ (r = n ∨ p r = true)

set_option maxHeartbeats 1000000 in
/-- sort.Search -/
theorem search_any (w : World) (n : Nat) (g : FuncId) (cap : Array Value) (p : Nat → Bool) (hg : OkPred Try.prog g cap w n p) (hn : n ≤ 5000000000000) :
    Calls Try.prog 38 #[.int .i64 n, .func (.func g) #[] cap] w fun e w' => ∃ r : Nat, e = .returned (.int .i64 r) ∧ SearchAns p n r ∧ Below w.heap.size w w' := by
  have HG := Lib.hid hg.2
  have eg := hg.1
  clear hg
  go_enter Try.func38, Try.ntmps38
  go_wp2
  go_loopw [5, 6] (fun vi vj wr => ∃ i j : Nat, vi = .int .i64 i ∧ vj = .int .i64 j ∧ i ≤ j ∧ j ≤ n ∧ (i = 0 ∨ p (i - 1) = false) ∧ (j = n ∨ p j = true) ∧ Below w.heap.size w wr) (fun vi vj _ => (intOf vj).toNat - (intOf vi).toNat)
  case atStart => exact ⟨0, n, rfl, rfl, by omega, by omega, Or.inl rfl, Or.inl rfl, Below.refl _ _⟩
  case round =>
    obtain ⟨i, j, rfl, rfl, hij, hjn, h1, h2, hbr⟩ := hrel
    have H1 := Lib.hid h1
    have H2 := Lib.hid h2
    have HBR := Lib.hid hbr
    clear h1 h2 hbr
    by_cases hlt : i < j
    · have hm : i ≤ (i + j) / 2 ∧ (i + j) / 2 < j := by omega
      obtain ⟨h, hh⟩ : ∃ h, (i + j) / 2 = h := ⟨_, rfl⟩
      rw [hh] at hm
      have hm1 := hm.1
      have hm2 := hm.2
      have e3 : ((i : Int) + (j : Int)) / 2 = (h : Int) := by omega
      clear hm
      cases hp : p h
      · have HP := Lib.hid hp
        clear hp hh
        go_wp2_with (refine (HG.out wr h HBR.out (by omega)).mono ?_; rintro e w7 ⟨rfl, hb7⟩; have HB7 := Lib.hid hb7; clear hb7; rw [HP.out])
        go_roundw
        case rel => exact ⟨h + 1, j, by go_num, rfl, by omega, hjn, Or.inr HP.out, H2.out, HBR.out.trans (HB7.out.mono HBR.out.size)⟩
        case measure => simp [intOf]; omega
      · have HP := Lib.hid hp
        clear hp hh
        go_wp2_with (refine (HG.out wr h HBR.out (by omega)).mono ?_; rintro e w7 ⟨rfl, hb7⟩; have HB7 := Lib.hid hb7; clear hb7; rw [HP.out])
        go_roundw
        case rel => exact ⟨i, h, rfl, rfl, by omega, by omega, H1.out, Or.inr HP.out, HBR.out.trans (HB7.out.mono HBR.out.size)⟩
        case measure => simp [intOf]; omega
    · obtain rfl : i = j := by omega
      go_wp2
      go_ret
      exact ⟨i, rfl, ⟨hjn, H1.out, H2.out⟩, HBR.out⟩

end Go.Proofs.Ytndcbnnbgedgcaa
