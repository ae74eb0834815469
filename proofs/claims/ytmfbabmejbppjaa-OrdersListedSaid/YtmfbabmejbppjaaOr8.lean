/-
  Layer 18: the walks of orders.Right's closures.
-/
import Derived.Test.YtmfbabmejbppjaaOr4
import Derived.Test.YtmfbabmejbppjaaSo1
import Derived.Deep.RegionHeld3
set_option linter.unusedVariables false
set_option linter.unusedSimpArgs false
namespace Go.Proofs.Ytmfbabmejbppjaa
open Go.RowKit

/-- the closure that asks 0 <= x < n -/
def fitV (p q : Nat) : Value := .func (.func 32) #[] #[.pointer (some ⟨p, 0, none⟩), .pointer (some ⟨q, 0, none⟩)]
def FitAt (w : World) (p q : Nat) (x n : Int) : Prop := Box w p #[.int .i64 x] ∧ Box w q #[.int .i64 n]
theorem FitAt.ext {w w' : World} {p q : Nat} {x n : Int} (h : FitAt w p q x n) (hb : Below w.heap.size w w') : FitAt w' p q x n := ⟨h.1.ext hb, h.2.ext hb⟩

set_option maxHeartbeats 1000000 in
set_option maxRecDepth 100000 in
theorem below_any (x n : Int) (w : World) : Calls Try.prog 31 #[.int .i64 x, .int .i64 n] w fun e w' => ∃ p q, e = .returned (fitV p q) ∧ FitAt w' p q x n ∧ Below w.heap.size w w' := by
  have hmf : ∀ (fn : Fn) (first cap : Array Value) (w : World), (Instr.makeFunc fn first cap).run Try.prog w = .ok (.func fn first cap) w := fun _ _ _ _ => rfl
  have HF : Hid (FitAt ((w.alloc (.cells #[.int .i64 x] 3)).alloc (.cells #[.int .i64 n] 3)) w.heap.size (w.heap.size + 1) x n) := Lib.hid (by
    refine ⟨(Box.new _ _ _).alloc _, ?_⟩
    have := Box.new (w.alloc (.cells #[.int .i64 x] 3)) #[.int .i64 n] 3
    rwa [World.size_alloc] at this)
  have HB := Lib.hid (((Below.refl _ w).alloc (Nat.le_refl _) (.cells #[.int .i64 x] 3)).alloc (by simp) (.cells #[.int .i64 n] 3))
  go_enter Try.func31, Try.ntmps31
  go_wp2
  go_ret
  exact ⟨w.heap.size, w.heap.size + 1, rfl, HF.out, HB.out⟩

set_option maxHeartbeats 1000000 in
set_option maxRecDepth 100000 in
theorem fit_any (p q : Nat) (x n : Int) (w : World) (h : FitAt w p q x n) : Calls Try.prog 32 #[.pointer (some ⟨p, 0, none⟩), .pointer (some ⟨q, 0, none⟩)] w fun e w' => e = .returned (.bool (decide (0 ≤ x) && decide (x < n))) ∧ w' = w := by
  obtain ⟨⟨_, h1⟩, ⟨_, h2⟩⟩ := h
  have c1 := h1 0
  have c2 := h2 0
  simp at c1 c2
  clear h1 h2
  by_cases a : 0 ≤ x
  · have HE : Hid ((decide (0 ≤ x) && decide (x < n)) = decide (x < n)) := Lib.hid (by rw [decide_eq_true a, Bool.true_and])
    go_enter Try.func32, Try.ntmps32
    go_wp2
    go_ret
    exact ⟨ret_bool' HE.out, rfl⟩
  · have HE : Hid ((decide (0 ≤ x) && decide (x < n)) = false) := Lib.hid (by rw [decide_eq_false a, Bool.false_and])
    have a' : x < 0 := by omega
    clear a
    go_enter Try.func32, Try.ntmps32
    go_wp2
    go_ret
    exact ⟨ret_bool' HE.out, rfl⟩

def OrdBox (w : World) (b : Nat) (va : Value) (o : OrderD) : Prop := Box w b (orderC va o).toArray
set_option maxHeartbeats 1000000 in
set_option maxRecDepth 100000 in
theorem differ_any (b : Nat) (va : Value) (o : OrderD) (w : World) (h : OrdBox w b va o) : Calls Try.prog 33 #[.pointer (some ⟨b, 0, none⟩)] w fun e w' => e = .returned (.bool (decide (o.frm ≠ o.dest))) ∧ w' = w := by
  obtain ⟨_, xr⟩ := h
  have r0 := xr 0
  have r2 := xr 2
  simp [orderC] at r0 r2
  have HE : Hid ((o.frm != o.dest) = decide (o.frm ≠ o.dest)) := Lib.hid (by rw [Bool.eq_iff_iff]; simp)
  clear xr
  go_enter Try.func33, Try.ntmps33
  go_wp2
  go_ret
  exact ⟨ret_bool' HE.out.symm, rfl⟩

set_option maxHeartbeats 2000000 in
set_option maxRecDepth 100000 in
theorem rises_any (B b q : Nat) (va : Value) (o : OrderD) (offs : Int) (w : World) (h : OrdBox w b va o) (hq : Box w q #[.int .i64 offs]) (hv : IsInts B w va o.against) : Calls Try.prog 34 #[.pointer (some ⟨b, 0, none⟩), .pointer (some ⟨q, 0, none⟩)] w fun e w' => e = .returned (.bool (risesB offs (-1) o.against)) ∧ w' = w := by
  obtain ⟨xs, hxs⟩ : ∃ xs, o.against = xs := ⟨_, rfl⟩
  obtain ⟨bh, oh, ch, ⟨ah, e, hh1, hh2, hh4⟩, hh3, hh5, hh6⟩ := id hv
  subst e
  rw [hxs] at hv hh1 hh3 ⊢
  obtain ⟨_, xr⟩ := h
  have r8 := xr 8
  simp [orderC, hxs] at r8
  obtain ⟨_, yr⟩ := hq
  have q0 := yr 0
  simp at q0
  have HV := Lib.hid hv
  clear xr yr hv hh6 hh5 hh4 hxs
  go_enter Try.func34, Try.ntmps34
  go_wp2
  go_loop [3, 9] (fun lv iv => ∃ k : Nat, k ≤ xs.length ∧ iv = .int .i64 k ∧ lv = .int .i64 (lastAt xs k) ∧ RisesInv offs xs k) (fun lv iv => xs.length - (intOf iv).toNat)
  case atStart => exact ⟨0, by omega, rfl, rfl, rises_start _ _⟩
  case round =>
    obtain ⟨k, hk, rfl, rfl, hri⟩ := hrel
    have HRI := Lib.hid hri
    clear hri
    by_cases hlt : k < xs.length
    · obtain ⟨b, off, rfl, bb, g0, gl⟩ := IsInts.cellK HV.out hlt
      have HS := Lib.hid (rises_at HRI.out hlt)
      have HNX := Lib.hid (fun h1 h2 => rises_next HRI.out hlt h1 h2)
      obtain ⟨hh, hhe⟩ : ∃ hh, nth xs k = hh := ⟨_, rfl⟩
      have HL : Hid (lastAt xs (k + 1) = hh) := Lib.hid hhe
      obtain ⟨pr, hpr⟩ : ∃ pr, lastAt xs k = pr := ⟨_, rfl⟩
      rw [hhe] at g0 HS HNX
      rw [hpr] at HS HNX ⊢
      clear hhe hpr
      by_cases h1 : hh ≤ pr
      · have HN : Hid (risesB offs (-1) xs = false) := Lib.hid (by rw [HS.out, decide_eq_false (by omega)]; rfl)
        go_wp2
        go_ret
        exact ⟨ret_bool' HN.out, rfl⟩
      · have h1' : pr < hh := by omega
        clear h1
        by_cases h2 : offs ≤ hh
        · have HN : Hid (risesB offs (-1) xs = false) := Lib.hid (by rw [HS.out, decide_eq_false (show ¬ hh < offs by omega), Bool.and_false]; rfl)
          go_wp2
          go_ret
          exact ⟨ret_bool' HN.out, rfl⟩
        · have h2' : hh < offs := by omega
          have HN := Lib.hid (HNX.out h1' h2')
          clear h2
          go_wp2
          go_round
          case rel => exact ⟨k + 1, by omega, by go_num, by rw [HL.out], HN.out⟩
          case measure => simp [intOf]; omega
    · have HT := Lib.hid (rises_end HRI.out (by omega))
      go_wp2
      go_ret
      exact ⟨ret_bool' HT.out, rfl⟩
end Go.Proofs.Ytmfbabmejbppjaa
