/-
  Layer 3: the walks of lex.class, lex.Name.
-/
import Derived.Test.YtfnmidddgjlipaaGreatDoorLib
import Derived.Test.YtfnmidddgjlipaaGreatDoorLx1
import Derived.Test.YtfnmidddgjlipaaGreatDoorShl3
import Derived.IntWalk
set_option linter.unusedVariables false
set_option linter.unusedSimpArgs false
namespace Go.Proofs.YtfnmidddgjlipaaGreatDoor
open Go.RowKit

/-- the class of a byte, as the code numbers them -/
def cls (c : UInt8) : Int := if isLet c then 2 else if isDig c then 3 else if c.toNat = 95 then 5 else if isSpc c then 1 else if isSgn c then 4 else 0
theorem idx_mem (c : UInt8) : ∀ (l : List UInt8), 0 ≤ Go.Lib.indexByte l c ↔ l.contains c = true
  | [] => by simp [Go.Lib.indexByte]
  | a :: r => by
    have ih := idx_mem c r
    have hge := Go.Lib.indexByte_ge r c
    unfold Go.Lib.indexByte
    by_cases h : a = c
    · subst h; simp
    · have h1 : (a == c) = false := by simpa using h
      have h2 : (c == a) = false := by simp; exact fun e => h e.symm
      simp only [h1, List.contains_cons, h2, Bool.false_or, ← ih]
      by_cases h3 : Go.Lib.indexByte r c = -1
      · simp [h3]
      · simp [h3]; omega
theorem idx_sgn (c : UInt8) : (0 ≤ Go.Lib.indexByte [123, 125, 40, 41, 59, 44, 61, 58, 46, 60, 62, 33, 43, 45, 42, 47] c) ↔ isSgn c = true := idx_mem c _
theorem cls_let {c : UInt8} (h : (97 ≤ (c.toNat : Int) ∧ (c.toNat : Int) ≤ 122) ∨ (65 ≤ (c.toNat : Int) ∧ (c.toNat : Int) ≤ 90)) : cls c = 2 := by
  have : isLet c = true := by unfold isLet; simp; omega
  unfold cls; rw [if_pos this]
theorem cls_dig {c : UInt8} (h : 48 ≤ (c.toNat : Int) ∧ (c.toNat : Int) ≤ 57) : cls c = 3 := by
  have h1 : isLet c = false := by unfold isLet; simp; omega
  have h2 : isDig c = true := by unfold isDig; simp; omega
  unfold cls; simp [h1, h2]
theorem cls_line {c : UInt8} (h : (c.toNat : Int) = 95) : cls c = 5 := by
  have h1 : isLet c = false := by unfold isLet; simp; omega
  have h2 : isDig c = false := by unfold isDig; simp; omega
  have h3 : c.toNat = 95 := by omega
  unfold cls; simp [h1, h2, h3]
theorem cls_spc {c : UInt8} (h : (c.toNat : Int) = 32 ∨ (c.toNat : Int) = 9 ∨ (c.toNat : Int) = 10 ∨ (c.toNat : Int) = 13) : cls c = 1 := by
  have h1 : isLet c = false := by unfold isLet; simp; omega
  have h2 : isDig c = false := by unfold isDig; simp; omega
  have h3 : c.toNat ≠ 95 := by omega
  have h4 : isSpc c = true := by unfold isSpc; simp; omega
  unfold cls; simp [h1, h2, h3, h4]
theorem cls_rest {c : UInt8} (a : ¬ ((97 ≤ (c.toNat : Int) ∧ (c.toNat : Int) ≤ 122) ∨ (65 ≤ (c.toNat : Int) ∧ (c.toNat : Int) ≤ 90))) (b : ¬ (48 ≤ (c.toNat : Int) ∧ (c.toNat : Int) ≤ 57)) (d : (c.toNat : Int) ≠ 95)
    (e : ¬ ((c.toNat : Int) = 32 ∨ (c.toNat : Int) = 9 ∨ (c.toNat : Int) = 10 ∨ (c.toNat : Int) = 13)) : cls c = if isSgn c then 4 else 0 := by
  have h1 : isLet c = false := by unfold isLet; simp; omega
  have h2 : isDig c = false := by unfold isDig; simp; omega
  have h3 : c.toNat ≠ 95 := by omega
  have h4 : isSpc c = false := by unfold isSpc; simp; omega
  unfold cls; simp [h1, h2, h3, h4]
theorem ret_int' {k : IntKind} {a b : Int} (h : b = a) : Ending.returned (.int k a) = .returned (.int k b) := by rw [h]
theorem ret_bool' {a b : Bool} (h : b = a) : Ending.returned (.bool a) = .returned (.bool b) := by rw [h]

set_option maxHeartbeats 1000000 in
set_option maxRecDepth 100000 in
theorem class_any (c : UInt8) (w : World) : Calls Tryz.prog 31 #[.int .u8 (c.toNat : Int)] w fun e w' => e = .returned (.int .i64 (cls c)) ∧ w' = w := by
  have h255 : (c.toNat : Int) < 256 := by have := c.toNat_lt; omega
  go_enter Tryz.func31, Tryz.ntmps31
  go_wp2_with (go_at_call 61; refine (Tryz.strings_IndexByte _ _ _).mono ?_; rintro e w' ⟨rfl, rfl⟩)
  all_goals
    go_ret
    refine ⟨ret_int' ?_, rfl⟩
    first
      | (refine cls_let ?_; ((try simp only [beq_iff_eq, beq_eq_false_iff_ne, ne_eq] at *); omega))
      | (refine cls_dig ?_; ((try simp only [beq_iff_eq, beq_eq_false_iff_ne, ne_eq] at *); omega))
      | (refine cls_line ?_; ((try simp only [beq_iff_eq, beq_eq_false_iff_ne, ne_eq] at *); omega))
      | (refine cls_spc ?_; ((try simp only [beq_iff_eq, beq_eq_false_iff_ne, ne_eq] at *); omega))
      | (refine (cls_rest ?_ ?_ ?_ ?_).trans ?_
         focus ((try simp only [beq_iff_eq, beq_eq_false_iff_ne, ne_eq] at *); omega)
         focus ((try simp only [beq_iff_eq, beq_eq_false_iff_ne, ne_eq] at *); omega)
         focus ((try simp only [beq_iff_eq, beq_eq_false_iff_ne, ne_eq] at *); omega)
         focus ((try simp only [beq_iff_eq, beq_eq_false_iff_ne, ne_eq] at *); omega)
         first
           | exact if_pos ((idx_sgn c).1 (by assumption))
           | exact if_neg (fun h => absurd ((idx_sgn c).2 h) (by omega)))
end Go.Proofs.YtfnmidddgjlipaaGreatDoor
