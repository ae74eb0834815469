/-
  Layer 3: the walk of frankingref03.Few; tokens that came in, opened.
-/
import Derived.Test.YtagjiljhbdjlfaaDoorLx16
import Derived.Deep.Slices
set_option linter.unusedVariables false
set_option linter.unusedSimpArgs false
namespace Go.Proofs.YtagjiljhbdjlfaaDoor
open Go.RowKit

def sumLen (ts : List Tok) (k : Nat) : Nat := ((ts.take k).map fun t => t.text.length).sum
theorem sumLen_succ {ts : List Tok} {k : Nat} (h : k < ts.length) : sumLen ts (k + 1) = sumLen ts k + (tokAt ts k).text.length := by
  unfold sumLen
  rw [List.take_succ_eq_append_getElem h, List.map_append, List.sum_append, tokAt_get h]
  simp
def fewB (ts : List Tok) : Bool := decide (ts.length ≤ 200) && decide (sumLen ts ts.length ≤ 2000)
theorem sum_bd {ts : List Tok} (hx : ∀ j, j < ts.length → (tokAt ts j).text.length ≤ 140737488351232) : ∀ k, k ≤ ts.length → sumLen ts k ≤ k * 140737488351232
  | 0, _ => by simp [sumLen]
  | k + 1, h => by
    have ih := sum_bd hx k (by omega)
    have := hx k (by omega)
    rw [sumLen_succ (by omega), Nat.add_mul]
    omega

set_option maxHeartbeats 2000000 in
set_option maxRecDepth 100000 in
theorem few_any (B : Nat) (w : World) (v : Value) (ts : List Tok) (hv : IsToks B w v ts) :
    Calls Tryd.prog 15 #[v] w fun e w' => e = .returned (.bool (fewB ts)) ∧ w' = w := by
  obtain ⟨a, c, rfl, hc1, hc2, hc3⟩ := hv.form
  have HV := Lib.hid hv
  have HBD := Lib.hid (sum_bd (ts := ts) (fun j hj => (hv.ok hj).2.1))
  clear hv
  go_enter Tryd.func15, Tryd.ntmps15
  go_wp2
  go_loop [3, 4] (fun n i => ∃ (k : Nat) (m : Int), k ≤ ts.length ∧ i = .int .i64 k ∧ n = .int .i64 m ∧ (k ≤ 200 → m = sumLen ts k)) (fun _ i => ts.length - (intOf i).toNat)
  case atStart => exact ⟨0, 0, by omega, rfl, rfl, fun _ => by simp [sumLen]⟩
  case round =>
    obtain ⟨k, m, hk, rfl, rfl, hm⟩ := hrel
    have HM := Lib.hid hm
    clear hm
    by_cases hlt : k < ts.length
    · obtain ⟨b, off, rfl, _, _, g1, _, _⟩ := HV.out.cells hlt
      have HLN := Lib.hid (len_mk (tokAt ts k).text)
      by_cases h2 : k ≤ 200
      · obtain rfl := HM.out h2
        have hb := HBD.out k hk
        have hx := (HV.out.ok hlt).2.1
        have HSU := Lib.hid (sumLen_succ hlt)
        have b1 : (0 : Int) ≤ (sumLen ts k : Int) := by omega
        have b2 : (sumLen ts k : Int) ≤ 200 * 140737488351232 := by
          have : k * 140737488351232 ≤ 200 * 140737488351232 := Nat.mul_le_mul_right _ h2
          omega
        have b3 : ((tokAt ts k).text.length : Int) ≤ 140737488351232 := by omega
        clear hb
        go_wp2
        go_round
        case rel => exact ⟨k + 1, _, by omega, by go_num, rfl, fun _ => by rw [HSU.out]; simp⟩
        case measure => simp [intOf]; omega
      · go_wp2
        go_round
        case rel => exact ⟨k + 1, _, by omega, by go_num, rfl, fun h => by omega⟩
        case measure => simp [intOf]; omega
    · obtain rfl : k = ts.length := by omega
      by_cases h2 : ts.length ≤ 200
      · obtain rfl := HM.out h2
        by_cases h3 : sumLen ts ts.length ≤ 2000
        · have HF : Hid (fewB ts = true) := Lib.hid (by unfold fewB; simp [h2, h3])
          have h4 : (sumLen ts ts.length : Int) ≤ 2000 := by omega
          go_wp2
          go_ret
          exact ⟨ret_bool' HF.out, rfl⟩
        · have HF : Hid (fewB ts = false) := Lib.hid (by unfold fewB; simp [h3])
          have h4 : (2000 : Int) < (sumLen ts ts.length : Int) := by omega
          clear h3
          go_wp2
          go_ret
          exact ⟨ret_bool' (HF.out.trans (decide_eq_false (by omega)).symm), rfl⟩
      · have HF : Hid (fewB ts = false) := Lib.hid (by unfold fewB; simp [h2])
        go_wp2
        go_ret
        exact ⟨ret_bool' HF.out, rfl⟩
end Go.Proofs.YtagjiljhbdjlfaaDoor
