/-
  Layer 3: frankingref03.number.
-/
import Derived.Test.YtagjiljhbdjlfaaDoorLx18
import Derived.Test.YtagjiljhbdjlfaaDoorLx13
set_option linter.unusedVariables false
set_option linter.unusedSimpArgs false
namespace Go.Proofs.YtagjiljhbdjlfaaDoor
open Go.RowKit

theorem valOf_take {l : List UInt8} {k : Nat} {c : UInt8} (h : l[k]? = some c) : valOf (l.take (k + 1)) = 10 * valOf (l.take k) + (c.toNat - 48) := by
  have hk := (List.getElem?_eq_some_iff.1 h).1
  rw [List.take_succ_eq_append_getElem hk, (List.getElem?_eq_some_iff.1 h).2]
  unfold valOf
  rw [List.foldl_append]
  rfl
theorem fold_ge : ∀ (l : List UInt8) (a : Nat), a ≤ l.foldl (fun a c => 10 * a + (c.toNat - 48)) a
  | [], a => Nat.le_refl _
  | c :: r, a => by
    have := fold_ge r (10 * a + (c.toNat - 48))
    simp only [List.foldl_cons]
    omega
theorem valOf_le {l : List UInt8} (k : Nat) : valOf (l.take k) ≤ valOf l := by
  have h := fold_ge (l.drop k) (valOf (l.take k))
  unfold valOf at *
  rw [← List.foldl_append, List.take_append_drop] at h
  exact h
def RNum (l : List UInt8) (w : World) (e : Ending) (w' : World) : Prop :=
  (∃ n : Int, e = .returned (.tuple #[.int .i64 n, .bool (numB l)]) ∧ (numB l = true → n = (valOf l : Int))) ∧ Drew w w'

set_option maxHeartbeats 2000000 in
set_option maxRecDepth 100000 in
theorem rnumber_any (s : ByteArray) (w : World) (hd : ∀ c ∈ s.data.toList, isDig c = true) (hpos : 0 < s.size) (hs : s.size ≤ 1000000) :
    Calls Tryd.prog 34 #[.string s] w fun e w' => RNum s.data.toList w e w' := by
  have HD := Lib.hid hd
  have HG := Lib.hid (fun k (hk : k < s.size) => data_get hk)
  have HLN := Lib.hid (size_data s)
  clear hd
  go_enter Tryd.func34, Tryd.ntmps34
  go_wp2
  go_loop [4, 5] (fun n i => ∃ k : Nat, k ≤ s.size ∧ i = .int .i64 k ∧ n = .int .i64 (valOf (s.data.toList.take k) : Int) ∧ valOf (s.data.toList.take k) ≤ 1099511627776) (fun n i => s.size - (intOf i).toNat)
  case atStart => exact ⟨0, Nat.zero_le _, rfl, rfl, by simp [valOf]⟩
  case round =>
    obtain ⟨k, hk, rfl, rfl, hle⟩ := hrel
    by_cases hlt : k < s.size
    · have HK := Lib.hid (HG.out k hlt)
      have HV := Lib.hid (valOf_take HK.out)
      have hdig := HD.out s[k] (List.mem_of_getElem? HK.out)
      unfold isDig at hdig
      simp at hdig
      obtain ⟨q1, q2⟩ := hdig
      have r1 : (48 : Int) ≤ (s[k].toNat : Int) := by omega
      have r2 : (s[k].toNat : Int) ≤ 57 := by omega
      obtain ⟨m, hm⟩ : ∃ m : Nat, valOf (s.data.toList.take k) = m := ⟨_, rfl⟩
      rw [hm] at hle HV ⊢
      have hle2 : (m : Int) ≤ 1099511627776 := by omega
      have h0 : (0 : Int) ≤ (m : Int) := by omega
      have HSU : Hid ((valOf (s.data.toList.take (k + 1)) : Int) = 10 * (m : Int) + ((s[k].toNat : Int) - 48)) := Lib.hid (by rw [HV.out]; omega)
      clear hm q1 q2
      by_cases hb : 10 * (m : Int) + ((s[k].toNat : Int) - 48) ≤ 1099511627776
      · go_wp2
        go_round
        case rel => exact ⟨k + 1, by omega, by go_num, by rw [HSU.out], by have := HSU.out; omega⟩
        case measure => simp [intOf]; omega
      · have hb2 : (1099511627776 : Int) < 10 * (m : Int) + ((s[k].toNat : Int) - 48) := by omega
        have HF : Hid (numB s.data.toList = false) := Lib.hid (by
          have := valOf_le (l := s.data.toList) (k + 1)
          have h2 := HSU.out
          unfold numB
          rw [decide_eq_false (by omega), Bool.and_false])
        clear hb
        go_wp2
        go_ret2
        exact ⟨⟨0, by rw [HF.out]; rfl, fun h => by rw [HF.out] at h; cases h⟩, Drew.refl _⟩
    · obtain rfl : k = s.size := by omega
      have HT : Hid (s.data.toList.take s.size = s.data.toList) := Lib.hid (List.take_of_length_le (by have := HLN.out; omega))
      have HK := Lib.hid (HG.out 0 hpos)
      rw [HT.out] at hle ⊢
      have HN : Hid (numB s.data.toList = (s.data.toList.length == 1 || s.data.toList.head? != some 48)) := Lib.hid (by unfold numB; rw [decide_eq_true hle, Bool.and_true])
      obtain ⟨m, hm⟩ : ∃ m : Nat, valOf s.data.toList = m := ⟨_, rfl⟩
      have HM := Lib.hid hm
      rw [hm] at hle ⊢
      clear hm
      by_cases h1 : s.size = 1
      · have HB : Hid (numB s.data.toList = true) := Lib.hid (by rw [HN.out, HLN.out, h1]; rfl)
        have h1' : (s.size : Int) = 1 := by omega
        clear h1
        go_wp2
        go_quiet (fail)
        go_wp2
        go_ret2
        exact ⟨⟨m, by rw [HB.out]; rfl, fun _ => by rw [HM.out]⟩, (Drew.refl _).drewN _⟩
      · have h1' : ¬ (s.size : Int) = 1 := by omega
        have HH : Hid (s.data.toList.head? = some s[0]) := Lib.hid (by rw [List.head?_eq_getElem?]; exact HK.out)
        by_cases h2 : (s[0].toNat : Int) = 48
        · have HB : Hid (numB s.data.toList = false) := Lib.hid (by
            rw [HN.out, HLN.out, HH.out]
            have e : s[0] = 48 := UInt8.toNat_inj.1 (by show _ = 48; omega)
            rw [e]
            simp [h1])
          clear h1
          go_wp2
          go_quiet (fail)
          go_wp2
          go_ret2
          exact ⟨⟨m, by rw [HB.out.trans (beq_false_of_ne h1').symm]; rfl, fun h => by rw [HB.out] at h; cases h⟩, (Drew.refl _).drewN _⟩
        · have HB : Hid (numB s.data.toList = true) := Lib.hid (by
            rw [HN.out, HLN.out, HH.out]
            have e : ¬ s[0] = 48 := fun e => h2 (by rw [e]; rfl)
            simp [e])
          clear h1
          go_wp2
          go_quiet (fail)
          go_wp2
          go_ret2
          exact ⟨⟨m, by rw [HB.out.trans (show true = ((s.size : Int) == 1 || (s[0].toNat : Int) != 48) by rw [beq_false_of_ne h1', bne, beq_false_of_ne h2]; rfl)]; rfl, fun _ => by rw [HM.out]⟩, (Drew.refl _).drewN _⟩
end Go.Proofs.YtagjiljhbdjlfaaDoor
