/-
  Layer 17: the five parts as one contract; the walk of read's deferred closure.
-/
import Derived.Test.YtfnmidddgjlipaaGreatDoorY10
import Derived.Test.YtfnmidddgjlipaaGreatDoorLx12
set_option linter.unusedVariables false
set_option linter.unusedSimpArgs false
namespace Go.Proofs.YtfnmidddgjlipaaGreatDoor
open Go.RowKit

theorem OwnStrs.mono {C C' : Nat} {w : World} {v : Value} {xs : List Str} (h : OwnStrs C w v xs) (hC : C' ≤ C) : OwnStrs C' w v xs := by
  obtain ⟨vals, ⟨h0, h1⟩, h2, h3, h4⟩ := h
  refine ⟨vals, ⟨h0, ?_⟩, h2, h3, h4⟩
  rcases h1 with h1 | ⟨g, cap, cur, e, hb, rest⟩
  · exact .inl h1
  · exact .inr ⟨g, cap, cur, e, by omega, rest⟩
/-- what a part leaves: the offices against lie in blocks of the call's own -/
def StepPost (S B C k : Nat) (w : World) (stop : Int) (x : WishD) (ag : List Str) (l : List Tok) (e : Ending) (w' : World) : Prop :=
  w.grownBy w' (some S) ∧ match partP k x ag l with
    | .ok ((x', ag'), r) => e = .returned (.tuple #[]) ∧ ∃ va, Par S B w' stop r va x' ∧ OwnStrs C w' va ag' ∧ (k + 1 ≤ 2 → va = .slice none 0 0 ∧ ag' = [])
    | .error r => e = wrongE stop r
def liftP (ag : List Str) : PR WishD → PR (WishD × List Str)
  | .error e => .error e
  | .ok (y, r) => .ok ((y, ag), r)
theorem PartPost.step {S B C : Nat} {w : World} {stop : Int} {va : Value} {x : WishD} {ag : List Str} {l : List Tok} {k : Nat} {res : PR WishD} {e : Ending} {w' : World} (h : PartPost S B w stop va res e w') (hC : S < C) (ho : OwnStrs C w va ag) (hv : k + 1 ≤ 2 → va = .slice none 0 0 ∧ ag = [])
    (hp : partP k x ag l = liftP ag res) : StepPost S B C k w stop x ag l e w' := by
  obtain ⟨hg, h⟩ := h
  refine ⟨hg, ?_⟩
  rw [hp]
  cases res with
  | error r => exact h
  | ok v =>
    obtain ⟨y, r⟩ := v
    exact ⟨h.1, va, h.2, OwnStrs.row' ho hg (fun q e => by have e2 : S = q := Option.some.inj e; omega), hv⟩
theorem step0 (S B C : Nat) (w : World) (stop : Int) (l : List Tok) (va : Value) (x : WishD) (ag : List Str) (hS : Par S B w stop l va x) (hB : B ≤ S) (hC : S < C) (hCw : C ≤ w.heap.size) (ho : OwnStrs C w va ag) (hv : va = .slice none 0 0 ∧ ag = []) :
    Calls Tryz.prog 33 #[.pointer (some ⟨S, 0, none⟩)] w (StepPost S B C 0 w stop x ag l) :=
  (who_any S B w stop l va x hS hB).mono fun e w' h => h.step hC ho (fun _ => hv) (by unfold partP liftP; simp only; cases pWho x l <;> rfl)
theorem step1 (S B C : Nat) (w : World) (stop : Int) (l : List Tok) (va : Value) (x : WishD) (ag : List Str) (hS : Par S B w stop l va x) (hB : B ≤ S) (hC : S < C) (hCw : C ≤ w.heap.size) (ho : OwnStrs C w va ag) (hv : va = .slice none 0 0 ∧ ag = []) :
    Calls Tryz.prog 34 #[.pointer (some ⟨S, 0, none⟩)] w (StepPost S B C 1 w stop x ag l) :=
  (when_any S B w stop l va x hS hB).mono fun e w' h => h.step hC ho (fun _ => hv) (by unfold partP liftP; simp only; cases pWhen x l <;> rfl)
theorem step2 (S B C : Nat) (w : World) (stop : Int) (l : List Tok) (va : Value) (x : WishD) (ag : List Str) (hS : Par S B w stop l va x) (hB : B ≤ S) (hC : S < C) (hCw : C ≤ w.heap.size) (ho : OwnStrs C w va ag) (hv : va = .slice none 0 0 ∧ ag = []) :
    Calls Tryz.prog 35 #[.pointer (some ⟨S, 0, none⟩)] w (StepPost S B C 2 w stop x ag l) := by
  obtain ⟨rfl, rfl⟩ := hv
  have hlt := hS.lt
  refine (whom_any S B w stop l x hS hB).mono fun e w' h => ?_
  obtain ⟨hg, h⟩ := h
  refine ⟨hg, ?_⟩
  unfold partP
  cases hp : pAgainst l with
  | error r => rw [hp] at h; exact h
  | ok v =>
    obtain ⟨a, r⟩ := v
    rw [hp] at h
    obtain ⟨h1, va, h2, h3⟩ := h
    exact ⟨h1, va, h2, OwnStrs.mono h3 hCw, fun h => by omega⟩
theorem step3 (S B C : Nat) (w : World) (stop : Int) (l : List Tok) (va : Value) (x : WishD) (ag : List Str) (hS : Par S B w stop l va x) (hB : B ≤ S) (hC : S < C) (hCw : C ≤ w.heap.size) (ho : OwnStrs C w va ag) :
    Calls Tryz.prog 36 #[.pointer (some ⟨S, 0, none⟩)] w (StepPost S B C 3 w stop x ag l) :=
  (pay_any S B w stop l va x hS hB).mono fun e w' h => h.step hC ho (fun h => by omega) (by unfold partP liftP; simp only; cases pPay x l <;> rfl)
theorem step4 (S B C : Nat) (w : World) (stop : Int) (l : List Tok) (va : Value) (x : WishD) (ag : List Str) (hS : Par S B w stop l va x) (hB : B ≤ S) (hC : S < C) (hCw : C ≤ w.heap.size) (ho : OwnStrs C w va ag) :
    Calls Tryz.prog 37 #[.pointer (some ⟨S, 0, none⟩)] w (StepPost S B C 4 w stop x ag l) :=
  (otherwise_any S B w stop l va x hS hB).mono fun e w' h => h.step hC ho (fun h => by omega) (by unfold partP liftP; simp only; cases pOther x l <;> rfl)

/-- what the closure leaves: the results' cells -/
def CatchR (B b0 b1 b2 : Nat) (pl : Int) (w : World) (e : Ending) (u' : FrameMode) (w' : World) : Prop :=
  e = .returned (.tuple #[]) ∧ u' = .panicking [{ v := .iface 63 (.agg #[.int .i64 pl]), recovered := true }] ∧ Cell1 w' b0 (.slice none 0 0) ∧ Cell1 w' b1 (.int .i64 pl) ∧ Cell1 w' b2 (.int .i64 170) ∧ Below B w w'

set_option maxHeartbeats 1000000 in
set_option maxRecDepth 100000 in
theorem catchR_panic (B b0 b1 b2 : Nat) (pl : Int) (v0 v1 v2 : Value) (w : World) (h0 : Cell1 w b0 v0) (h1 : Cell1 w b1 v1) (h2 : Cell1 w b2 v2) (h01 : b0 ≠ b1) (h02 : b0 ≠ b2) (h12 : b1 ≠ b2) (hB0 : B ≤ b0) (hB1 : B ≤ b1) (hB2 : B ≤ b2) :
    CallsD Tryz.prog 32 #[.pointer (some ⟨b0, 0, none⟩), .pointer (some ⟨b1, 0, none⟩), .pointer (some ⟨b2, 0, none⟩)] (.panicking [{ v := .iface 63 (.agg #[.int .i64 pl]), recovered := false }]) w (CatchR B b0 b1 b2 pl w) := by
  have hta : ∀ (v : Value) (w : World), (Instr.typeAssert (.iface 63 v) 20 63 true).run Tryz.prog w = .ok (.tuple #[v, .bool true]) w := fun _ _ => by kernel_rfl
  refine callsD_of_wpS Tryz.func32 rfl fun c₀ cs hu => ?_
  apply wpS_seq
  apply wpS_region
  simp [wpOpsS, go_sem, recoverD, hu, Tryz.ntmps32, Exit.thenS]
  refine wpS_of_wp ?_
  have H0 := Lib.hid h0
  have H1 := Lib.hid h1
  have H2 := Lib.hid h2
  have HU := Lib.hid hu
  have g0 := h0.lt
  have g1 := h1.lt
  have g2 := h2.lt
  clear h0 h1 h2 hu
  simp only [Array.replicate, List.replicate, List.setIfInBounds_toArray, List.set_cons_zero, List.set_cons_succ, List.append_toArray, List.cons_append, List.nil_append]
  go_upto_region 5 with fail
  obtain ⟨b4, hb4⟩ : ∃ b, w.heap.size = b := ⟨_, rfl⟩
  obtain ⟨W1, hW1⟩ : ∃ W, w.alloc (.cells #[.int .i64 pl] 63) = W := ⟨_, rfl⟩
  have hb : Below w.heap.size w W1 := by rw [← hW1]; exact box_below' w _
  have k4 : Cell1 W1 b4 (.int .i64 pl) := by rw [← hW1, ← hb4]; exact Cell1.new _ _ _
  have k0 := H0.out.ext hb
  have k1 := H1.out.ext hb
  have k2 := H2.out.ext hb
  have HB := Lib.hid hb
  have K0 := Lib.hid k0
  have K1 := Lib.hid k1
  have K2 := Lib.hid k2
  rw [hW1]
  try rw [hb4]
  have h40 : b4 ≠ b0 := by omega
  have h41 : b4 ≠ b1 := by omega
  have h42 : b4 ≠ b2 := by omega
  have HSZ : Hid (B ≤ w.heap.size) := Lib.hid (by omega)
  have c0 := k0.cell
  have c1 := k1.cell
  have c2 := k2.cell
  have c4 := k4.cell
  have f0 := k0.free
  have f1 := k1.free
  have f2 := k2.free
  clear k0 k1 k2 k4 hb hb4 hW1
  go_region
  refine ⟨rfl, .panicking [{ v := .iface 63 (.agg #[.int .i64 pl]), recovered := true }], rfl, .tuple #[], results_none rfl _ _ _, ?_⟩
  have A0 := ((K0.out.set (.slice none 0 0)).other h01 (.int .i64 pl)).other h02 (.int .i64 170)
  have A1 := ((K1.out.other (fun e => h01 e.symm) (.slice none 0 0)).set (.int .i64 pl)).other h12 (.int .i64 170)
  have A2 := ((K2.out.other (fun e => h02 e.symm) (.slice none 0 0)).other (fun e => h12 e.symm) (.int .i64 pl)).set (.int .i64 170)
  have AB := ((((HB.out.mono HSZ.out).setCell (p := ⟨b0, 0, none⟩) hB0 (.slice none 0 0)).setCell (p := ⟨b1, 0, none⟩) hB1 (.int .i64 pl)).setCell (p := ⟨b2, 0, none⟩) hB2 (.int .i64 170)).drew
  exact ⟨rfl, rfl, A0, A1, A2, AB⟩

set_option maxRecDepth 100000 in
/-- nothing to recover -/
theorem catchR_idle (b0 b1 b2 : Nat) (w : World) :
    CallsD Tryz.prog 32 #[.pointer (some ⟨b0, 0, none⟩), .pointer (some ⟨b1, 0, none⟩), .pointer (some ⟨b2, 0, none⟩)] .returning w fun e u' w' => e = .returned (.tuple #[]) ∧ u' = .returning ∧ w' = w := by
  refine callsD_of_wpS Tryz.func32 rfl fun c₀ cs hu => ?_
  apply wpS_seq
  apply wpS_region
  simp [wpOpsS, go_sem, recoverD, hu, Tryz.ntmps32, Exit.thenS]
  refine wpS_of_wp ?_
  have HU := Lib.hid hu
  clear hu
  simp only [Array.replicate, List.replicate, List.setIfInBounds_toArray, List.set_cons_zero, List.set_cons_succ, List.append_toArray, List.cons_append, List.nil_append]
  go_wp2
  refine ⟨rfl, .returning, ?_, .tuple #[], results_none rfl _ _ _, rfl, rfl, rfl⟩
  rw [← HU.out]
end Go.Proofs.YtfnmidddgjlipaaGreatDoor
