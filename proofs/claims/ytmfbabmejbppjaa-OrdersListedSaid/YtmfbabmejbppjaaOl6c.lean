/-
  Layer 18: the walk of OrdersListed's closure.
-/
import Derived.Test.YtmfbabmejbppjaaOl6b
set_option linter.unusedVariables false
set_option linter.unusedSimpArgs false
namespace Go.Proofs.Ytmfbabmejbppjaa
open Go.RowKit

set_option maxHeartbeats 2000000 in
set_option maxRecDepth 100000 in
theorem moved_any (w : World) (q : Int) (p9 p10 i j : Nat) (h9 : w.cell? ⟨p9, 0, none⟩ = some (.int .i64 (i : Int))) (h10 : w.cell? ⟨p10, 0, none⟩ = some (.int .i64 (j : Int))) :
    Calls Try.prog 19 #[.int .i64 q, .pointer (some ⟨p9, 0, none⟩), .pointer (some ⟨p10, 0, none⟩)] w fun e w' => e = .returned (.int .i64 (movedI i j q)) ∧ w' = w := by
  have HMV : Hid (movedI i j q = if q = i then (j : Int) else if q = j then (i : Int) else q) := Lib.hid rfl
  by_cases e1 : q = (i : Int)
  · have hb : (q == (i : Int)) = true := by simpa using e1
    have HR : Hid (movedI i j q = j) := Lib.hid (by rw [HMV.out, if_pos e1])
    clear e1
    go_enter Try.func19, Try.ntmps19
    go_wp2
    go_ret
    exact ⟨ret_int' HR.out, rfl⟩
  · have hb : (q == (i : Int)) = false := by simpa using e1
    by_cases e2 : q = (j : Int)
    · have hb2 : (q == (j : Int)) = true := by simpa using e2
      have HR : Hid (movedI i j q = i) := Lib.hid (by rw [HMV.out, if_neg e1, if_pos e2])
      clear e1 e2
      go_enter Try.func19, Try.ntmps19
      go_wp2
      go_ret
      exact ⟨ret_int' HR.out, rfl⟩
    · have hb2 : (q == (j : Int)) = false := by simpa using e2
      have HR : Hid (movedI i j q = q) := Lib.hid (by rw [HMV.out, if_neg e1, if_neg e2])
      clear e1 e2
      go_enter Try.func19, Try.ntmps19
      go_wp2
      go_ret
      exact ⟨ret_int' HR.out, rfl⟩
end Go.Proofs.Ytmfbabmejbppjaa
