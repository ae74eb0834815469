/-
  Layer 3: the walk of Lex's deferred closure.
-/
import Derived.Test.YtfnmidddgjlipaaGreatDoorLx9
import Derived.Defers
import Derived.Recover
set_option linter.unusedVariables false
set_option linter.unusedSimpArgs false
namespace Go.Proofs.YtfnmidddgjlipaaGreatDoor
open Go.RowKit

/-- what the closure leaves: the results' cells -/
def CatchPost (B b0 b1 b2 at_ : Nat) (w : World) (e : Ending) (u' : FrameMode) (w' : World) : Prop :=
  e = .returned (.tuple #[]) ∧ u' = .panicking [{ v := .iface 53 (.int .i64 (at_ : Int)), recovered := true }] ∧ Cell1 w' b0 (.slice none 0 0) ∧ Cell1 w' b1 (.int .i64 (at_ : Int)) ∧ Cell1 w' b2 (.int .i64 30) ∧ Below B w w'
theorem Cell1.other {w : World} {b p : Nat} {v : Value} (h : Cell1 w b v) (hne : b ≠ p) (u : Value) : Cell1 (w.setCell ⟨p, 0, none⟩ u) b v :=
  h.grown (grown_setCell w ⟨p, 0, none⟩ u) (fun e => hne (by injection e))

set_option maxHeartbeats 1000000 in
set_option maxRecDepth 100000 in
theorem catch_panic (B b0 b1 b2 : Nat) (at_ : Nat) (v0 v1 v2 : Value) (w : World) (h0 : Cell1 w b0 v0) (h1 : Cell1 w b1 v1) (h2 : Cell1 w b2 v2) (h01 : b0 ≠ b1) (h02 : b0 ≠ b2) (h12 : b1 ≠ b2) (hB0 : B ≤ b0) (hB1 : B ≤ b1) (hB2 : B ≤ b2) :
    CallsD Tryz.prog 25 #[.pointer (some ⟨b0, 0, none⟩), .pointer (some ⟨b1, 0, none⟩), .pointer (some ⟨b2, 0, none⟩)] (.panicking [{ v := .iface 53 (.int .i64 (at_ : Int)), recovered := false }]) w (CatchPost B b0 b1 b2 at_ w) := by
  have hta : ∀ (v : Value) (w : World), (Instr.typeAssert (.iface 53 v) 20 53 false).run Tryz.prog w = .ok v w := fun _ _ => by kernel_rfl
  refine callsD_of_wpS Tryz.func25 rfl fun c₀ cs hu => ?_
  apply wpS_seq
  apply wpS_region
  simp [wpOpsS, go_sem, recoverD, hu, Tryz.ntmps25, Exit.thenS]
  refine wpS_of_wp ?_
  have H0 := Lib.hid h0
  have H1 := Lib.hid h1
  have H2 := Lib.hid h2
  have HU := Lib.hid hu
  have c0 := h0.cell
  have c1 := h1.cell
  have c2 := h2.cell
  have f0 := h0.free
  have f1 := h1.free
  have f2 := h2.free
  clear h0 h1 h2 hu
  simp only [Array.replicate, List.replicate, List.setIfInBounds_toArray, List.set_cons_zero, List.set_cons_succ, List.append_toArray, List.cons_append, List.nil_append]
  go_wp2_with fail
  go_region
  refine ⟨rfl, .panicking [{ v := .iface 53 (.int .i64 (at_ : Int)), recovered := true }], rfl, .tuple #[], results_none rfl _ _ _, ?_⟩
  have A0 := ((H0.out.set (.slice none 0 0)).other h01 (.int .i64 (at_ : Int))).other h02 (.int .i64 30)
  have A1 := ((H1.out.other (fun e => h01 e.symm) (.slice none 0 0)).set (.int .i64 (at_ : Int))).other h12 (.int .i64 30)
  have A2 := ((H2.out.other (fun e => h02 e.symm) (.slice none 0 0)).other (fun e => h12 e.symm) (.int .i64 (at_ : Int))).set (.int .i64 30)
  have AB := ((((Below.refl B w).setCell (p := ⟨b0, 0, none⟩) hB0 (.slice none 0 0)).setCell (p := ⟨b1, 0, none⟩) hB1 (.int .i64 (at_ : Int))).setCell (p := ⟨b2, 0, none⟩) hB2 (.int .i64 30)).drew
  exact ⟨rfl, rfl, A0, A1, A2, AB⟩

set_option maxRecDepth 100000 in
/-- nothing to recover -/
theorem catch_idle (b0 b1 b2 : Nat) (w : World) :
    CallsD Tryz.prog 25 #[.pointer (some ⟨b0, 0, none⟩), .pointer (some ⟨b1, 0, none⟩), .pointer (some ⟨b2, 0, none⟩)] .returning w fun e u' w' => e = .returned (.tuple #[]) ∧ u' = .returning ∧ w' = w := by
  refine callsD_of_wpS Tryz.func25 rfl fun c₀ cs hu => ?_
  apply wpS_seq
  apply wpS_region
  simp [wpOpsS, go_sem, recoverD, hu, Tryz.ntmps25, Exit.thenS]
  refine wpS_of_wp ?_
  have HU := Lib.hid hu
  clear hu
  simp only [Array.replicate, List.replicate, List.setIfInBounds_toArray, List.set_cons_zero, List.set_cons_succ, List.append_toArray, List.cons_append, List.nil_append]
  go_wp2
  refine ⟨rfl, .returning, ?_, .tuple #[], results_none rfl _ _ _, rfl, rfl, rfl⟩
  rw [← HU.out]
end Go.Proofs.YtfnmidddgjlipaaGreatDoor
