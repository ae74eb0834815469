/-
  Layer 3: frankingref03: Letter, Figure, part, Name (orders seat).
-/
import Derived.Test.YtmfbabmejbppjaaOn1
set_option linter.unusedVariables false
set_option linter.unusedSimpArgs false
namespace Go.Proofs.Ytmfbabmejbppjaa
open Go.RowKit

set_option maxHeartbeats 1000000 in
set_option maxRecDepth 100000 in
theorem rletter_any (c : UInt8) (w : World) : Calls Try.prog 49 #[.int .u8 (c.toNat : Int)] w fun e w' => e = .returned (.bool (isLet c)) ∧ w' = w := by
  have h255 : (c.toNat : Int) < 256 := by have := c.toNat_lt; omega
  by_cases a1 : (97 : Int) ≤ (c.toNat : Int) <;> by_cases a2 : (c.toNat : Int) ≤ (122 : Int) <;> by_cases a3 : (65 : Int) ≤ (c.toNat : Int) <;> by_cases a4 : (c.toNat : Int) ≤ (90 : Int)
  all_goals
    first
    | (exfalso; omega)
    | (go_enter Try.func49, Try.ntmps49
       go_wp2
       go_ret
       refine ⟨ret_bool' ?_, rfl⟩
       unfold isLet
       simp
       omega)

set_option maxHeartbeats 1000000 in
set_option maxRecDepth 100000 in
theorem rfigure_any (c : UInt8) (w : World) : Calls Try.prog 63 #[.int .u8 (c.toNat : Int)] w fun e w' => e = .returned (.bool (isDig c)) ∧ w' = w := by
  have h255 : (c.toNat : Int) < 256 := by have := c.toNat_lt; omega
  by_cases a1 : (48 : Int) ≤ (c.toNat : Int) <;> by_cases a2 : (c.toNat : Int) ≤ (57 : Int)
  all_goals
    first
    | (exfalso; omega)
    | (go_enter Try.func63, Try.ntmps63
       go_wp2
       go_ret
       refine ⟨ret_bool' ?_, rfl⟩
       unfold isDig
       simp
       omega)

set_option maxHeartbeats 4000000 in
set_option maxRecDepth 100000 in
theorem rpart_any (c : UInt8) (w : World) : Calls Try.prog 50 #[.int .u8 (c.toNat : Int)] w fun e w' => e = .returned (.bool (isPart c)) ∧ w' = w := by
  have h255 : (c.toNat : Int) < 256 := by have := c.toNat_lt; omega
  have HP : Hid (isPart c = (isLet c || isDig c || decide (c.toNat = 95))) := Lib.hid rfl
  cases h1 : isLet c with
  | true =>
    have HQ : Hid (isPart c = true) := Lib.hid (by rw [HP.out, h1]; rfl)
    have H1 := Lib.hid h1
    clear h1
    go_enter Try.func50, Try.ntmps50
    go_wp2_with fail
    refine (rletter_any c w).mono ?_
    rintro e w1 ⟨rfl, rfl⟩
    rw [H1.out]
    go_wp2
    go_ret
    exact ⟨ret_bool' HQ.out, rfl⟩
  | false =>
    have H1 := Lib.hid h1
    cases h2 : isDig c with
    | true =>
      have HQ : Hid (isPart c = true) := Lib.hid (by rw [HP.out, h1, h2]; rfl)
      have H2 := Lib.hid h2
      clear h1 h2
      go_enter Try.func50, Try.ntmps50
      go_wp2_with fail
      refine (rletter_any c w).mono ?_
      rintro e w1 ⟨rfl, rfl⟩
      rw [H1.out]
      go_wp2_with fail
      refine (rfigure_any c w1).mono ?_
      rintro e w2 ⟨rfl, rfl⟩
      rw [H2.out]
      go_wp2
      go_ret
      exact ⟨ret_bool' HQ.out, rfl⟩
    | false =>
      have H2 := Lib.hid h2
      have HQ : Hid (isPart c = decide (c.toNat = 95)) := Lib.hid (by rw [HP.out, h1, h2]; rfl)
      clear h1 h2
      go_enter Try.func50, Try.ntmps50
      go_wp2_with fail
      refine (rletter_any c w).mono ?_
      rintro e w1 ⟨rfl, rfl⟩
      rw [H1.out]
      go_wp2_with fail
      refine (rfigure_any c w1).mono ?_
      rintro e w2 ⟨rfl, rfl⟩
      rw [H2.out]
      by_cases a1 : (c.toNat : Int) = 95
      · go_wp2
        go_ret
        exact ⟨ret_bool' (HQ.out.trans (by simp; omega)), rfl⟩
      · go_wp2
        go_ret
        exact ⟨ret_bool' (HQ.out.trans (by rw [beq_false_of_ne a1]; exact decide_eq_false (by omega))), rfl⟩

set_option maxHeartbeats 1000000 in
set_option maxRecDepth 100000 in
theorem rname_any (s : ByteArray) (w : World) (hs : s.size ≤ 9223372036854775806) : Calls Try.prog 43 #[.string s] w fun e w' => e = .returned (.bool (nameB s.data.toList)) ∧ w' = w := by
  by_cases h0 : s.size = 0
  · obtain rfl := str_zero h0
    clear h0 hs
    go_enter Try.func43, Try.ntmps43
    go_wp2
    go_ret
    exact ⟨rfl, rfl⟩
  · have h1 : (1 : Int) ≤ (s.size : Int) := by omega
    by_cases h32 : 32 < s.size
    · have HB := Lib.hid (nameB_big (l := s.data.toList) (by rw [size_data]; exact h32))
      have h33 : (32 : Int) < (s.size : Int) := by omega
      go_enter Try.func43, Try.ntmps43
      go_wp2
      go_ret
      exact ⟨ret_bool' HB.out, rfl⟩
    · have hpos : 0 < s.size := by omega
      have h33 : (s.size : Int) ≤ 32 := by omega
      have HG := Lib.hid (fun k (hk : k < s.size) => data_get hk)
      go_enter Try.func43, Try.ntmps43
      go_wp2_with fail
      refine (rletter_any s[0] w).mono ?_
      rintro e w1 ⟨rfl, rfl⟩
      cases hc : isLet s[0] with
      | false =>
        have HB := Lib.hid (nameB_first (HG.out 0 hpos) hc)
        clear hc
        go_wp2
        go_ret
        exact ⟨ret_bool' HB.out, rfl⟩
      | true =>
        have HC := Lib.hid hc
        clear hc
        go_wp2
        go_loop [3] (fun i => ∃ k : Nat, k ≤ s.size ∧ i = .int .i64 k ∧ ∀ j, j < k → ∀ d, s.data.toList[j]? = some d → isPart d = true) (fun i => s.size - (intOf i).toNat)
        case atStart => exact ⟨0, Nat.zero_le _, rfl, fun j hj => by omega⟩
        case round =>
          obtain ⟨k, hk, rfl, hall⟩ := hrel
          have HA := Lib.hid hall
          clear hall
          by_cases hlt : k < s.size
          · go_wp2_with fail
            refine (rpart_any s[k] w1).mono ?_
            rintro e w2 ⟨rfl, rfl⟩
            cases f : isPart s[k] with
            | true =>
              have HF := Lib.hid f
              clear f
              go_wp2
              go_round
              case rel =>
                refine ⟨k + 1, by omega, by go_num, fun j hj d hd => ?_⟩
                by_cases hjk : j < k
                · exact HA.out j hjk d hd
                · obtain rfl : j = k := by omega
                  rw [HG.out j hlt] at hd
                  cases hd
                  exact HF.out
              case measure => simp [intOf]; omega
            | false =>
              have HB := Lib.hid (nameB_bad (HG.out k hlt) f)
              clear f
              go_wp2
              go_ret
              exact ⟨ret_bool' HB.out, rfl⟩
          · have HB := Lib.hid (nameB_ok (HG.out 0 hpos) HC.out (by rw [size_data]; omega) (fun j hj d hd => HA.out j (by rw [size_data] at hj; omega) d hd))
            go_wp2
            go_ret
            exact ⟨ret_bool' HB.out, rfl⟩
end Go.Proofs.Ytmfbabmejbppjaa
