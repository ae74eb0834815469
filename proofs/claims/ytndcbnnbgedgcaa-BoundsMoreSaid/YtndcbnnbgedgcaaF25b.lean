/-
  The walks of flows.counter and of the closures of flows.Check.
-/
import Derived.Test.YtndcbnnbgedgcaaF25a
set_option linter.unusedVariables false
set_option linter.unusedSimpArgs false
namespace Go.Proofs.Ytndcbnnbgedgcaa
open Go.RowKit

theorem run_makeFunc_any {P : Program} (fn : Fn) (first cap : Array Value) (w : World) : (Instr.makeFunc fn first cap).run P w = .ok (.func fn first cap) w := rfl

/-- flows.counter -/
theorem counter_any (n : Int) (w : World) :
    Calls Try.prog 69 #[.int .i64 n] w fun e w' => e = .returned (.func (.func 92) #[] #[.pointer (some ⟨w.heap.size, 0, none⟩)]) ∧ w' = w.alloc (.cells #[.int .i64 n] 3) := by
  have hmf := @run_makeFunc_any Try.prog
  go_enter Try.func69, Try.ntmps69
  go_wp2
  go_ret
  exact ⟨rfl, rfl⟩

/-- the function that flows.counter returns -/
theorem count_any (n m : Int) (b : Nat) (w : World) (h : Cell1 w b (.int .i64 n)) (hn : 0 ≤ n) (hn2 : n ≤ 1000000000000000) (hm : 0 ≤ m) (hm2 : m ≤ 1000000000000000) :
    Calls Try.prog 92 #[.int .i64 m, .pointer (some ⟨b, 0, none⟩)] w fun e w' => e = .returned (.int .i64 n) ∧ w' = w.setCell ⟨b, 0, none⟩ (.int .i64 (n + m)) := by
  have h1 := h.cell
  have h2 := h.free
  have h3 := (h.set (.int .i64 (n + m))).cell
  clear h
  go_enter Try.func92, Try.ntmps92
  go_wp2
  go_ret
  refine ⟨?_, rfl⟩
  show Ending.returned (.int .i64 _) = _
  congr 2

/-- the condition that a spot may go into a lot -/
def freeB (m : Int) (S : List Int) (x : Int) : Bool := decide (0 ≤ x) && (decide (x < m) && !hasB S x)
def outB (m : Int) (x : Int) : Bool := decide (0 ≤ x) && decide (x < m)

theorem free_any (x m : Int) (b1 b2 r : Nat) (S : List Int) (w : World) (h1 : Box w b1 #[.int .i64 m]) (h2 : Box w b2 #[.map (some r)]) (h3 : SetMap w r S) :
    Calls Try.prog 70 #[.int .i64 x, .pointer (some ⟨b1, 0, none⟩), .pointer (some ⟨b2, 0, none⟩)] w fun e w' => e = .returned (.bool (freeB m S x)) ∧ w' = w := by
  have H3 := Lib.hid h3
  have c1 : w.cell? ⟨b1, 0, none⟩ = some (.int .i64 m) := h1.2 0
  have c2 : w.cell? ⟨b2, 0, none⟩ = some (.map (some r)) := h2.2 0
  have HE : Hid (freeB m S x = (decide (0 ≤ x) && (decide (x < m) && !hasB S x))) := Lib.hid rfl
  clear h1 h2 h3
  by_cases q1 : 0 ≤ x
  · have q1' : decide (0 ≤ x) = true := decide_eq_true q1
    by_cases q2 : x < m
    · have q2' : decide (x < m) = true := decide_eq_true q2
      have HF : Hid (freeB m S x = !hasB S x) := Lib.hid (by rw [HE.out, q1', q2']; rfl)
      go_enter Try.func70, Try.ntmps70
      go_wp2_with (at_lookup; refine wpList_lookup_set rfl _ _ rfl Try.underlying89 Try.underlying3 (Try.zeroValue4 _) rfl H3.out rfl ?_)
      go_ret
      exact ⟨by rw [HF.out]; rfl, rfl⟩
    · have q2' : decide (x < m) = false := decide_eq_false q2
      have HF : Hid (freeB m S x = false) := Lib.hid (by rw [HE.out, q2']; simp)
      go_enter Try.func70, Try.ntmps70
      go_wp2
      go_ret
      exact ⟨by rw [HF.out]; rfl, rfl⟩
  · have q1' : decide (0 ≤ x) = false := decide_eq_false q1
    have HF : Hid (freeB m S x = false) := Lib.hid (by rw [HE.out, q1']; rfl)
    go_enter Try.func70, Try.ntmps70
    go_wp2
    go_ret
    exact ⟨by rw [HF.out]; rfl, rfl⟩

theorem out_any (x m : Int) (b1 : Nat) (w : World) (h1 : Box w b1 #[.int .i64 m]) :
    Calls Try.prog 71 #[.int .i64 x, .pointer (some ⟨b1, 0, none⟩)] w fun e w' => e = .returned (.bool (outB m x)) ∧ w' = w := by
  have c1 : w.cell? ⟨b1, 0, none⟩ = some (.int .i64 m) := h1.2 0
  have HE : Hid (outB m x = (decide (0 ≤ x) && decide (x < m))) := Lib.hid rfl
  clear h1
  by_cases q1 : 0 ≤ x
  · have q1' : decide (0 ≤ x) = true := decide_eq_true q1
    have HF : Hid (outB m x = decide (x < m)) := Lib.hid (by rw [HE.out, q1']; rfl)
    go_enter Try.func71, Try.ntmps71
    go_wp2
    go_ret
    exact ⟨by rw [HF.out]; rfl, rfl⟩
  · have q1' : decide (0 ≤ x) = false := decide_eq_false q1
    have HF : Hid (outB m x = false) := Lib.hid (by rw [HE.out, q1']; rfl)
    go_enter Try.func71, Try.ntmps71
    go_wp2
    go_ret
    exact ⟨by rw [HF.out]; rfl, rfl⟩

end Go.Proofs.Ytndcbnnbgedgcaa
