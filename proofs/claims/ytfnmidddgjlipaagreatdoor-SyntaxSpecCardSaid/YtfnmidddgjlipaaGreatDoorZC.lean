/-
  SyntaxSpec holds, and its card: for all arguments the law returns true, and the arguments read as before.
  Conditions: what the row lists of package-level variables; the card ties that to the program's text.
-/
import Derived.Test.YtfnmidddgjlipaaGreatDoorLx4
import Derived.Test.YtfnmidddgjlipaaGreatDoorLx13
import Derived.Test.YtfnmidddgjlipaaGreatDoorLx12
import Derived.Test.YtfnmidddgjlipaaGreatDoorZM
import Derived.Test.YtfnmidddgjlipaaGreatDoorY13
import Derived.Test.YtfnmidddgjlipaaGreatDoorY21
import Derived.Test.YtfnmidddgjlipaaGreatDoorLd
import Derived.Test.YtfnmidddgjlipaaGreatDoorCards
import Derived.Test.YtfnmidddgjlipaaGreatDoorTie
import Derived.SevenTiedAt
/-
  Layer 3: frankingref03: Letter, Figure, part, Space, Sign, Name.
-/
set_option linter.unusedVariables false
set_option linter.unusedSimpArgs false
namespace Go.Proofs.YtfnmidddgjlipaaGreatDoor
open Go.RowKit

set_option maxHeartbeats 1000000 in
set_option maxRecDepth 100000 in
theorem rletter_any (c : UInt8) (w : World) : Calls Tryz.prog 40 #[.int .u8 (c.toNat : Int)] w fun e w' => e = .returned (.bool (isLet c)) ∧ w' = w := by
  have h255 : (c.toNat : Int) < 256 := by have := c.toNat_lt; omega
  by_cases a1 : (97 : Int) ≤ (c.toNat : Int) <;> by_cases a2 : (c.toNat : Int) ≤ (122 : Int) <;> by_cases a3 : (65 : Int) ≤ (c.toNat : Int) <;> by_cases a4 : (c.toNat : Int) ≤ (90 : Int)
  all_goals
    first
    | (exfalso; omega)
    | (go_enter Tryz.func40, Tryz.ntmps40
       go_wp2
       go_ret
       refine ⟨ret_bool' ?_, rfl⟩
       unfold isLet
       simp
       omega)

set_option maxHeartbeats 1000000 in
set_option maxRecDepth 100000 in
theorem rfigure_any (c : UInt8) (w : World) : Calls Tryz.prog 43 #[.int .u8 (c.toNat : Int)] w fun e w' => e = .returned (.bool (isDig c)) ∧ w' = w := by
  have h255 : (c.toNat : Int) < 256 := by have := c.toNat_lt; omega
  by_cases a1 : (48 : Int) ≤ (c.toNat : Int) <;> by_cases a2 : (c.toNat : Int) ≤ (57 : Int)
  all_goals
    first
    | (exfalso; omega)
    | (go_enter Tryz.func43, Tryz.ntmps43
       go_wp2
       go_ret
       refine ⟨ret_bool' ?_, rfl⟩
       unfold isDig
       simp
       omega)

set_option maxHeartbeats 1000000 in
set_option maxRecDepth 100000 in
theorem rspace_any (c : UInt8) (w : World) : Calls Tryz.prog 39 #[.int .u8 (c.toNat : Int)] w fun e w' => e = .returned (.bool (isSpc c)) ∧ w' = w := by
  have h255 : (c.toNat : Int) < 256 := by have := c.toNat_lt; omega
  by_cases a1 : (c.toNat : Int) = 32
  · go_enter Tryz.func39, Tryz.ntmps39
    go_wp2
    go_ret
    refine ⟨ret_bool' ?_, rfl⟩
    unfold isSpc
    simp
    omega
  · by_cases a2 : (c.toNat : Int) = 9
    · go_enter Tryz.func39, Tryz.ntmps39
      go_wp2
      go_ret
      refine ⟨ret_bool' ?_, rfl⟩
      unfold isSpc
      simp
      omega
    · by_cases a3 : (c.toNat : Int) = 10
      · go_enter Tryz.func39, Tryz.ntmps39
        go_wp2
        go_ret
        refine ⟨ret_bool' ?_, rfl⟩
        unfold isSpc
        simp
        omega
      · by_cases a4 : (c.toNat : Int) = 13
        · have HS : Hid (isSpc c = true) := Lib.hid (by unfold isSpc; simp; omega)
          go_enter Tryz.func39, Tryz.ntmps39
          go_wp2
          go_ret
          exact ⟨ret_bool' HS.out, rfl⟩
        · have HS : Hid (isSpc c = false) := Lib.hid (by unfold isSpc; simp; omega)
          go_enter Tryz.func39, Tryz.ntmps39
          go_wp2
          go_ret
          exact ⟨ret_bool' (HS.out.trans (by rw [beq_false_of_ne a1, beq_false_of_ne a2, beq_false_of_ne a3, beq_false_of_ne a4]; rfl)), rfl⟩

set_option maxHeartbeats 4000000 in
set_option maxRecDepth 100000 in
theorem rpart_any (c : UInt8) (w : World) : Calls Tryz.prog 41 #[.int .u8 (c.toNat : Int)] w fun e w' => e = .returned (.bool (isPart c)) ∧ w' = w := by
  have h255 : (c.toNat : Int) < 256 := by have := c.toNat_lt; omega
  have HP : Hid (isPart c = (isLet c || isDig c || decide (c.toNat = 95))) := Lib.hid rfl
  cases h1 : isLet c with
  | true =>
    have HQ : Hid (isPart c = true) := Lib.hid (by rw [HP.out, h1]; rfl)
    have H1 := Lib.hid h1
    clear h1
    go_enter Tryz.func41, Tryz.ntmps41
    go_wp2_with fail
    refine (rletter_any c w).mono ?_
    rintro e w1 ⟨rfl, rfl⟩
    rw [H1.out]
    go_wp2
    go_ret
    exact ⟨ret_bool' HQ.out, rfl⟩
  | false =>
    have H1 := Lib.hid h1
    cases h2 : isDig c with
    | true =>
      have HQ : Hid (isPart c = true) := Lib.hid (by rw [HP.out, h1, h2]; rfl)
      have H2 := Lib.hid h2
      clear h1 h2
      go_enter Tryz.func41, Tryz.ntmps41
      go_wp2_with fail
      refine (rletter_any c w).mono ?_
      rintro e w1 ⟨rfl, rfl⟩
      rw [H1.out]
      go_wp2_with fail
      refine (rfigure_any c w1).mono ?_
      rintro e w2 ⟨rfl, rfl⟩
      rw [H2.out]
      go_wp2
      go_ret
      exact ⟨ret_bool' HQ.out, rfl⟩
    | false =>
      have H2 := Lib.hid h2
      have HQ : Hid (isPart c = decide (c.toNat = 95)) := Lib.hid (by rw [HP.out, h1, h2]; rfl)
      clear h1 h2
      go_enter Tryz.func41, Tryz.ntmps41
      go_wp2_with fail
      refine (rletter_any c w).mono ?_
      rintro e w1 ⟨rfl, rfl⟩
      rw [H1.out]
      go_wp2_with fail
      refine (rfigure_any c w1).mono ?_
      rintro e w2 ⟨rfl, rfl⟩
      rw [H2.out]
      by_cases a1 : (c.toNat : Int) = 95
      · go_wp2
        go_ret
        exact ⟨ret_bool' (HQ.out.trans (by simp; omega)), rfl⟩
      · go_wp2
        go_ret
        exact ⟨ret_bool' (HQ.out.trans (by rw [beq_false_of_ne a1]; exact decide_eq_false (by omega))), rfl⟩

set_option maxHeartbeats 1000000 in
set_option maxRecDepth 100000 in
theorem rsign_any (c : UInt8) (w : World) : Calls Tryz.prog 45 #[.int .u8 (c.toNat : Int)] w fun e w' => e = .returned (.bool (isSgn c)) ∧ w' = w := by
  have h255 : (c.toNat : Int) < 256 := by have := c.toNat_lt; omega
  go_enter Tryz.func45, Tryz.ntmps45
  go_wp2
  obtain ⟨sg, hsg⟩ : ∃ sg, (⟨#[123, 125, 40, 41, 59, 44, 61, 58, 46, 60, 62, 33, 43, 45, 42, 47]⟩ : ByteArray) = sg := ⟨_, rfl⟩
  have HD : Hid (sg.data.toList = signL) := Lib.hid (by rw [← hsg]; rfl)
  have hsz : sg.size = 16 := by rw [← hsg]; rfl
  have HG := Lib.hid (fun k (hk : k < sg.size) => data_get hk)
  rw [hsg]
  clear hsg
  go_loop [4] (fun i => ∃ k : Nat, k ≤ 16 ∧ i = .int .i64 k ∧ ∀ j, j < k → signL[j]? ≠ some c) (fun i => 16 - (intOf i).toNat)
  case atStart => exact ⟨0, Nat.zero_le _, rfl, fun j hj => by omega⟩
  case round =>
    obtain ⟨k, hk, rfl, hall⟩ := hrel
    have HA := Lib.hid hall
    clear hall
    by_cases hlt : k < 16
    · have hlt2 : k < sg.size := by omega
      have HK := Lib.hid (HG.out k hlt2)
      by_cases he : sg[k] = c
      · have HS : Hid (isSgn c = true) := Lib.hid (by
          unfold isSgn
          rw [List.contains_iff_mem]
          rw [HD.out, he] at HK
          exact List.mem_of_getElem? HK.out)
        have he2 : ((sg[k].toNat : Int)) = (c.toNat : Int) := by rw [he]
        clear he
        go_wp2
        go_ret
        exact ⟨ret_bool' HS.out, rfl⟩
      · have he2 : ¬ ((sg[k].toNat : Int)) = (c.toNat : Int) := fun h => he (UInt8.toNat_inj.1 (by omega))
        have HE := Lib.hid he
        clear he
        go_wp2
        go_round
        case rel =>
          refine ⟨k + 1, by omega, by go_num, fun j hj hd => ?_⟩
          by_cases hjk : j < k
          · exact HA.out j hjk hd
          · obtain rfl : j = k := by omega
            have := HK.out
            rw [HD.out, hd] at this
            exact HE.out (Option.some.inj this).symm
        case measure => simp [intOf]; omega
    · obtain rfl : k = 16 := by omega
      have HS : Hid (isSgn c = false) := Lib.hid (by
        unfold isSgn
        rw [Bool.eq_false_iff]
        intro h
        obtain ⟨i, hi, hh⟩ := List.mem_iff_getElem.1 (List.contains_iff_mem.1 h)
        exact HA.out i hi (by rw [List.getElem?_eq_getElem hi, hh]))
      go_wp2
      go_ret
      exact ⟨ret_bool' HS.out, rfl⟩

set_option maxHeartbeats 1000000 in
set_option maxRecDepth 100000 in
theorem rname_any (s : ByteArray) (w : World) (hs : s.size ≤ 9223372036854775806) : Calls Tryz.prog 42 #[.string s] w fun e w' => e = .returned (.bool (nameB s.data.toList)) ∧ w' = w := by
  by_cases h0 : s.size = 0
  · obtain rfl := str_zero h0
    clear h0 hs
    go_enter Tryz.func42, Tryz.ntmps42
    go_wp2
    go_ret
    exact ⟨rfl, rfl⟩
  · have h1 : (1 : Int) ≤ (s.size : Int) := by omega
    by_cases h32 : 32 < s.size
    · have HB := Lib.hid (nameB_big (l := s.data.toList) (by rw [size_data]; exact h32))
      have h33 : (32 : Int) < (s.size : Int) := by omega
      go_enter Tryz.func42, Tryz.ntmps42
      go_wp2
      go_ret
      exact ⟨ret_bool' HB.out, rfl⟩
    · have hpos : 0 < s.size := by omega
      have h33 : (s.size : Int) ≤ 32 := by omega
      have HG := Lib.hid (fun k (hk : k < s.size) => data_get hk)
      go_enter Tryz.func42, Tryz.ntmps42
      go_wp2_with fail
      refine (rletter_any s[0] w).mono ?_
      rintro e w1 ⟨rfl, rfl⟩
      cases hc : isLet s[0] with
      | false =>
        have HB := Lib.hid (nameB_first (HG.out 0 hpos) hc)
        clear hc
        go_wp2
        go_ret
        exact ⟨ret_bool' HB.out, rfl⟩
      | true =>
        have HC := Lib.hid hc
        clear hc
        go_wp2
        go_loop [3] (fun i => ∃ k : Nat, k ≤ s.size ∧ i = .int .i64 k ∧ ∀ j, j < k → ∀ d, s.data.toList[j]? = some d → isPart d = true) (fun i => s.size - (intOf i).toNat)
        case atStart => exact ⟨0, Nat.zero_le _, rfl, fun j hj => by omega⟩
        case round =>
          obtain ⟨k, hk, rfl, hall⟩ := hrel
          have HA := Lib.hid hall
          clear hall
          by_cases hlt : k < s.size
          · go_wp2_with fail
            refine (rpart_any s[k] w1).mono ?_
            rintro e w2 ⟨rfl, rfl⟩
            cases f : isPart s[k] with
            | true =>
              have HF := Lib.hid f
              clear f
              go_wp2
              go_round
              case rel =>
                refine ⟨k + 1, by omega, by go_num, fun j hj d hd => ?_⟩
                by_cases hjk : j < k
                · exact HA.out j hjk d hd
                · obtain rfl : j = k := by omega
                  rw [HG.out j hlt] at hd
                  cases hd
                  exact HF.out
              case measure => simp [intOf]; omega
            | false =>
              have HB := Lib.hid (nameB_bad (HG.out k hlt) f)
              clear f
              go_wp2
              go_ret
              exact ⟨ret_bool' HB.out, rfl⟩
          · have HB := Lib.hid (nameB_ok (HG.out 0 hpos) HC.out (by rw [size_data]; omega) (fun j hj d hd => HA.out j (by rw [size_data] at hj; omega) d hd))
            go_wp2
            go_ret
            exact ⟨ret_bool' HB.out, rfl⟩
end Go.Proofs.YtfnmidddgjlipaaGreatDoor

/-
  Layer 3: frankingref03.number.
-/
set_option linter.unusedVariables false
set_option linter.unusedSimpArgs false
namespace Go.Proofs.YtfnmidddgjlipaaGreatDoor
open Go.RowKit

theorem valOf_take {l : List UInt8} {k : Nat} {c : UInt8} (h : l[k]? = some c) : valOf (l.take (k + 1)) = 10 * valOf (l.take k) + (c.toNat - 48) := by
  have hk := (List.getElem?_eq_some_iff.1 h).1
  rw [List.take_succ_eq_append_getElem hk, (List.getElem?_eq_some_iff.1 h).2]
  unfold valOf
  rw [List.foldl_append]
  rfl
theorem fold_ge : ∀ (l : List UInt8) (a : Nat), a ≤ l.foldl (fun a c => 10 * a + (c.toNat - 48)) a
  | [], a => Nat.le_refl _
  | c :: r, a => by
    have := fold_ge r (10 * a + (c.toNat - 48))
    simp only [List.foldl_cons]
    omega
theorem valOf_le {l : List UInt8} (k : Nat) : valOf (l.take k) ≤ valOf l := by
  have h := fold_ge (l.drop k) (valOf (l.take k))
  unfold valOf at *
  rw [← List.foldl_append, List.take_append_drop] at h
  exact h
def RNum (l : List UInt8) (w : World) (e : Ending) (w' : World) : Prop :=
  (∃ n : Int, e = .returned (.tuple #[.int .i64 n, .bool (numB l)]) ∧ (numB l = true → n = (valOf l : Int))) ∧ Drew w w'

set_option maxHeartbeats 2000000 in
set_option maxRecDepth 100000 in
theorem rnumber_any (s : ByteArray) (w : World) (hd : ∀ c ∈ s.data.toList, isDig c = true) (hpos : 0 < s.size) (hs : s.size ≤ 1000000) :
    Calls Tryz.prog 44 #[.string s] w fun e w' => RNum s.data.toList w e w' := by
  have HD := Lib.hid hd
  have HG := Lib.hid (fun k (hk : k < s.size) => data_get hk)
  have HLN := Lib.hid (size_data s)
  clear hd
  go_enter Tryz.func44, Tryz.ntmps44
  go_wp2
  go_loop [4, 5] (fun n i => ∃ k : Nat, k ≤ s.size ∧ i = .int .i64 k ∧ n = .int .i64 (valOf (s.data.toList.take k) : Int) ∧ valOf (s.data.toList.take k) ≤ 1099511627776) (fun n i => s.size - (intOf i).toNat)
  case atStart => exact ⟨0, Nat.zero_le _, rfl, rfl, by simp [valOf]⟩
  case round =>
    obtain ⟨k, hk, rfl, rfl, hle⟩ := hrel
    by_cases hlt : k < s.size
    · have HK := Lib.hid (HG.out k hlt)
      have HV := Lib.hid (valOf_take HK.out)
      have hdig := HD.out s[k] (List.mem_of_getElem? HK.out)
      unfold isDig at hdig
      simp at hdig
      obtain ⟨q1, q2⟩ := hdig
      have r1 : (48 : Int) ≤ (s[k].toNat : Int) := by omega
      have r2 : (s[k].toNat : Int) ≤ 57 := by omega
      obtain ⟨m, hm⟩ : ∃ m : Nat, valOf (s.data.toList.take k) = m := ⟨_, rfl⟩
      rw [hm] at hle HV ⊢
      have hle2 : (m : Int) ≤ 1099511627776 := by omega
      have h0 : (0 : Int) ≤ (m : Int) := by omega
      have HSU : Hid ((valOf (s.data.toList.take (k + 1)) : Int) = 10 * (m : Int) + ((s[k].toNat : Int) - 48)) := Lib.hid (by rw [HV.out]; omega)
      clear hm q1 q2
      by_cases hb : 10 * (m : Int) + ((s[k].toNat : Int) - 48) ≤ 1099511627776
      · go_wp2
        go_round
        case rel => exact ⟨k + 1, by omega, by go_num, by rw [HSU.out], by have := HSU.out; omega⟩
        case measure => simp [intOf]; omega
      · have hb2 : (1099511627776 : Int) < 10 * (m : Int) + ((s[k].toNat : Int) - 48) := by omega
        have HF : Hid (numB s.data.toList = false) := Lib.hid (by
          have := valOf_le (l := s.data.toList) (k + 1)
          have h2 := HSU.out
          unfold numB
          rw [decide_eq_false (by omega), Bool.and_false])
        clear hb
        go_wp2
        go_ret2
        exact ⟨⟨0, by rw [HF.out]; rfl, fun h => by rw [HF.out] at h; cases h⟩, Drew.refl _⟩
    · obtain rfl : k = s.size := by omega
      have HT : Hid (s.data.toList.take s.size = s.data.toList) := Lib.hid (List.take_of_length_le (by have := HLN.out; omega))
      have HK := Lib.hid (HG.out 0 hpos)
      rw [HT.out] at hle ⊢
      have HN : Hid (numB s.data.toList = (s.data.toList.length == 1 || s.data.toList.head? != some 48)) := Lib.hid (by unfold numB; rw [decide_eq_true hle, Bool.and_true])
      obtain ⟨m, hm⟩ : ∃ m : Nat, valOf s.data.toList = m := ⟨_, rfl⟩
      have HM := Lib.hid hm
      rw [hm] at hle ⊢
      clear hm
      by_cases h1 : s.size = 1
      · have HB : Hid (numB s.data.toList = true) := Lib.hid (by rw [HN.out, HLN.out, h1]; rfl)
        have h1' : (s.size : Int) = 1 := by omega
        clear h1
        go_wp2
        go_quiet (fail)
        go_wp2
        go_ret2
        exact ⟨⟨m, by rw [HB.out]; rfl, fun _ => by rw [HM.out]⟩, (Drew.refl _).drewN _⟩
      · have h1' : ¬ (s.size : Int) = 1 := by omega
        have HH : Hid (s.data.toList.head? = some s[0]) := Lib.hid (by rw [List.head?_eq_getElem?]; exact HK.out)
        by_cases h2 : (s[0].toNat : Int) = 48
        · have HB : Hid (numB s.data.toList = false) := Lib.hid (by
            rw [HN.out, HLN.out, HH.out]
            have e : s[0] = 48 := UInt8.toNat_inj.1 (by show _ = 48; omega)
            rw [e]
            simp [h1])
          clear h1
          go_wp2
          go_quiet (fail)
          go_wp2
          go_ret2
          exact ⟨⟨m, by rw [HB.out.trans (beq_false_of_ne h1').symm]; rfl, fun h => by rw [HB.out] at h; cases h⟩, (Drew.refl _).drewN _⟩
        · have HB : Hid (numB s.data.toList = true) := Lib.hid (by
            rw [HN.out, HLN.out, HH.out]
            have e : ¬ s[0] = 48 := fun e => h2 (by rw [e]; rfl)
            simp [e])
          clear h1
          go_wp2
          go_quiet (fail)
          go_wp2
          go_ret2
          exact ⟨⟨m, by rw [HB.out.trans (show true = ((s.size : Int) == 1 || (s[0].toNat : Int) != 48) by rw [beq_false_of_ne h1', bne, beq_false_of_ne h2]; rfl)]; rfl, fun _ => by rw [HM.out]⟩, (Drew.refl _).drewN _⟩
end Go.Proofs.YtfnmidddgjlipaaGreatDoor

/-
  Layer 3: the walk of frankingref03.Lex (printed by tools/rlex.py).
-/
set_option linter.unusedVariables false
set_option linter.unusedSimpArgs false
namespace Go.Proofs.YtfnmidddgjlipaaGreatDoor
open Go.RowKit

theorem tw_end {s : ByteArray} {at_ k : Nat} {p : UInt8 → Bool} (h1 : at_ ≤ k) (h2 : k ≤ s.size) (ha : ∀ j (hj : j < s.size), at_ ≤ j → j < k → p s[j] = true) (hn : ∀ (h : k < s.size), p s[k] = false) :
    (s.data.toList.drop at_).takeWhile p = (s.extract at_ k).data.toList ∧ ((s.data.toList.drop at_).takeWhile p).length = k - at_ := by
  have hl : s.data.toList.length = s.size := size_data s
  have := tw_len (p := p) (l := s.data.toList.drop at_) (n := k - at_) (by simp only [List.length_drop, hl]; omega) (fun j c hj hc => by
    rw [List.getElem?_drop] at hc
    rw [data_get (by omega)] at hc
    cases hc
    exact ha (at_ + j) (by omega) (by omega) (by omega)) (fun c hc => by
    rw [List.getElem?_drop, show at_ + (k - at_) = k by omega] at hc
    have hk : k < s.size := by have := (List.getElem?_eq_some_iff.1 hc).1; omega
    rw [data_get hk] at hc
    cases hc
    exact hn hk)
  rw [this, extract_list]
  refine ⟨rfl, ?_⟩
  rw [List.length_take, List.length_drop, hl]
  omega
theorem mem_tw {p : UInt8 → Bool} {l : List UInt8} {c : UInt8} (h : c ∈ l.takeWhile p) : p c = true := by
  have := List.all_takeWhile (p := p) (l := l)
  exact List.all_eq_true.1 this c h
theorem extract_one {s : ByteArray} {k : Nat} (h : k < s.size) : (s.extract k (k + 1)).data.toList = [s[k]] := by
  have hl := size_data s
  rw [extract_list, show k + 1 - k = 1 by omega]
  have h1 : s.data.toList.drop k = s[k] :: s.data.toList.drop (k + 1) := by
    have h2 := data_get h
    obtain ⟨hlt, he⟩ := List.getElem?_eq_some_iff.1 h2
    rw [List.drop_eq_getElem_cons hlt, he]
  rw [h1]
  rfl
theorem results_tmp3 {fn : Func} {t u x : Tmp} (h : fn.results = #[.tmp t, .tmp u, .tmp x]) (tmps : Array Value) (P : Program) (w : World) :
    (results fn tmps).run P w = .ok (.tuple #[tmps.getD t undef, tmps.getD u undef, tmps.getD x undef]) w := by
  simp [results, h]
theorem lex_bad_out {l : List UInt8} {k : Nat} (h : (lexA l 0).2 = some k) (hl : l.length ≤ 65536) : lexT l = [] ∧ lexP l = k ∧ lexE l = 30 := by
  have h2 : ¬ l.length > 65536 := by omega
  unfold lexT lexP lexE
  rw [if_neg h2, if_neg h2, if_neg h2, h]
  exact ⟨rfl, rfl, rfl⟩
theorem lex_good_out {l : List UInt8} {ts : List Tok} (h : lexA l 0 = (ts, none)) (hl : l.length ≤ 65536) : lexT l = ts ∧ lexP l = 0 ∧ lexE l = 0 := by
  have h2 : ¬ l.length > 65536 := by omega
  unfold lexT lexP lexE
  rw [if_neg h2, if_neg h2, if_neg h2, h]
  exact ⟨rfl, rfl, rfl⟩

set_option maxHeartbeats 8000000 in
set_option maxRecDepth 100000 in
theorem rlex_any (s : ByteArray) (w : World) (hs : s.size ≤ 9223372036854775806) :
    Calls Tryz.prog 15 #[.string s] w (LexPost s w) := by
  have hlen := size_data s
  by_cases hbig : 65536 < s.size
  · have HP : Hid (lexT s.data.toList = [] ∧ lexP s.data.toList = 0 ∧ lexE s.data.toList = 2) := Lib.hid (by unfold lexT lexP lexE; rw [hlen]; simp [hbig])
    clear hlen
    have hbig2 : (65536 : Int) < (s.size : Int) := by omega
    go_enter Tryz.func15, Tryz.ntmps15
    go_wp2
    refine bodyPost_ret (results_tmp3 rfl _ _ _) rfl ?_
    obtain ⟨e1, e2, e3⟩ := HP.out
    refine ⟨.slice none 0 0, by rw [e2, e3]; rfl, ?_, Below.refl _ _⟩
    rw [e1]
    exact OwnToks.nil _ _
  · have hsm : s.size ≤ 65536 := by omega
    have hsm2 : (s.size : Int) ≤ 65536 := by omega
    have HLN := Lib.hid hlen
    have HG := Lib.hid (fun k (hk : k < s.size) => data_get hk)
    clear hbig hlen
    go_enter Tryz.func15, Tryz.ntmps15
    go_wp2
    go_loopw [5, 6] (fun v i wr => ∃ (k : Nat) (ts : List Tok), i = .int .i64 k ∧ LexInv s.data.toList k ts ∧ OwnToks w.heap.size wr v ts ∧ Below w.heap.size w wr) (fun v i _ => s.size - (intOf i).toNat)
    case atStart => exact ⟨0, [], rfl, inv_start _, OwnToks.made rfl (Nat.le_refl _), (Below.refl _ _).alloc (Nat.le_refl _) _⟩
    case round =>
      obtain ⟨k, ts, rfl, hinv, ho, hbr⟩ := hrel
      obtain ⟨av, nv, cv, rfl⟩ := ho.form'
      have HI := Lib.hid hinv
      have HO := Lib.hid ho
      have HBR := Lib.hid hbr
      have hzr := hbr.size
      have hnt := hinv.2.2.1
      have hkl : k ≤ s.size := by have := hinv.2.1; rw [HLN.out] at this; exact this
      clear hinv ho hbr
      by_cases hlt : k < s.size
      · have HK := Lib.hid (HG.out k hlt)
        have HDR := Lib.hid (drop_at HK.out)
        cases hsp : isSpc s[k] with
        | true =>
          have HS : Hid (stepL (s.data.toList.drop k) = some (1, none)) := Lib.hid (by rw [HDR.out]; exact step_spc hsp)
          have HI2 := Lib.hid (inv_skip HI.out HS.out)
          have H1 := Lib.hid hsp
          clear hsp
          go_wp2_with fail
          refine (rspace_any s[k] wr).mono ?_
          rintro e w1 ⟨rfl, hw⟩
          rw [hw, H1.out]
          clear hw
          go_wp2
          go_roundw
          case rel => exact ⟨k + 1, ts, by go_num, HI2.out, HO.out, HBR.out⟩
          case measure => simp [intOf]; omega
        | false =>
          have H1 := Lib.hid hsp
          cases hcm : (s[k] == 47 && (s.data.toList.drop (k + 1)).head? == some 47) with
          | true =>
            have h47 : s[k] = 47 ∧ (s.data.toList.drop (k + 1)).head? = some 47 := by simpa using hcm
            obtain ⟨g1, g2⟩ := h47
            rw [List.head?_drop] at g2
            have hk1 : k + 1 < s.size := by have := (List.getElem?_eq_some_iff.1 g2).1; rw [HLN.out] at this; exact this
            rw [HG.out (k + 1) hk1] at g2
            have N1 : Hid ((s[k].toNat : Int) = 47) := Lib.hid (by rw [g1]; rfl)
            have N2 : Hid ((s[k + 1].toNat : Int) = 47) := Lib.hid (by rw [Option.some.inj g2]; rfl)
            have hk2 : ((k : Int) + 1) < (s.size : Int) := by omega
            have HS : Hid (stepL (s.data.toList.drop k) = some (comLen (s.data.toList.drop k), none)) := Lib.hid (by rw [HDR.out, stepL, hsp, hcm]; simp)
            have HI2 := Lib.hid (inv_skip HI.out HS.out)
            have HP := Lib.hid (step_pos HS.out)
            clear hsp hcm g1 g2
            go_wp2_with fail
            refine (rspace_any s[k] wr).mono ?_
            rintro e w1 ⟨rfl, hw⟩
            rw [hw, H1.out]
            clear hw
            have n1 := N1.out
            have n2 := N2.out
            go_wp2
            clear n1 n2
            go_loop [6] (fun i => ∃ j : Nat, k ≤ j ∧ j ≤ s.size ∧ i = .int .i64 j ∧ ∀ q (hq : q < s.size), k ≤ q → q < j → (s[q] != 10) = true) (fun i => s.size - (intOf i).toNat)
            case atStart => exact ⟨k, Nat.le_refl _, hkl, rfl, fun q hq h1 h2 => by omega⟩
            case round =>
              obtain ⟨j, hj1, hj2, rfl, hall⟩ := hrel
              have HA := Lib.hid hall
              clear hall
              by_cases hj : j < s.size
              · by_cases h10 : (s[j].toNat : Int) = 10
                · have HT : Hid (comLen (s.data.toList.drop k) = j - k) := Lib.hid (tw_end (p := fun c => c != 10) hj1 hj2 HA.out (fun h => by have e : s[j] = 10 := UInt8.toNat_inj.1 (by show _ = 10; omega); simp [e])).2
                  rw [HT.out, show k + (j - k) = j by omega] at HI2
                  rw [HT.out] at HP
                  have hp := HP.out.1
                  go_wp2
                  go_roundw
                  case rel => exact ⟨j, ts, by go_num, HI2.out, HO.out, HBR.out⟩
                  case measure => simp [intOf]; omega
                · have HE : Hid ((s[j] != 10) = true) := Lib.hid (by simp only [bne_iff_ne, ne_eq]; intro e; exact h10 (by rw [e]; rfl))
                  go_wp2
                  go_round
                  case rel =>
                    refine ⟨j + 1, by omega, by omega, by go_num, fun q hq h1 h2 => ?_⟩
                    by_cases hqj : q < j
                    · exact HA.out q hq h1 hqj
                    · obtain rfl : q = j := by omega
                      exact HE.out
                  case measure => simp [intOf]; omega
              · obtain rfl : j = s.size := by omega
                have HT : Hid (comLen (s.data.toList.drop k) = s.size - k) := Lib.hid (tw_end (p := fun c => c != 10) hj1 hj2 HA.out (fun h => by omega)).2
                rw [HT.out, show k + (s.size - k) = s.size by omega] at HI2
                rw [HT.out] at HP
                have hp := HP.out.1
                go_wp2
                go_roundw
                case rel => exact ⟨s.size, ts, by go_num, HI2.out, HO.out, HBR.out⟩
                case measure => simp [intOf]; omega
          | false =>
            have HCM := Lib.hid hcm
            cases hlet : isLet s[k] with
            | true =>
              have hpt := let_part hlet
              have HSL : Hid (stepL (s.data.toList.drop k) = if nameB ((s.data.toList.drop k).takeWhile isPart) then some (((s.data.toList.drop k).takeWhile isPart).length, some ⟨1, (s.data.toList.drop k).takeWhile isPart, 0, 0⟩) else none) := Lib.hid (by
                rw [HDR.out]
                simp [stepL, part_spc hpt, part_slash hpt, hlet])
              have HLE := Lib.hid hlet
              have HFIRST := Lib.hid hpt
              have HN47 : Hid (¬ (s[k].toNat : Int) = 47) := Lib.hid (fun e => by
                have e2 : s[k] = 47 := UInt8.toNat_inj.1 (by show _ = 47; omega)
                rw [e2] at hlet
                cases hlet)
              clear hsp hcm hlet hpt
              go_wp2_with fail
              refine (rspace_any s[k] wr).mono ?_
              rintro e w1 ⟨rfl, hw⟩
              rw [hw, H1.out]
              clear hw
              have hn47 := HN47.out
              go_wp2_with fail
              refine (rletter_any s[k] wr).mono ?_
              rintro e w1 ⟨rfl, hw⟩
              rw [hw, HLE.out]
              clear hw
              go_wp2
              go_loop [6] (fun i => ∃ j : Nat, k ≤ j ∧ j ≤ s.size ∧ i = .int .i64 j ∧ ∀ q (hq : q < s.size), k ≤ q → q < j → isPart s[q] = true) (fun i => s.size - (intOf i).toNat)
              case atStart => exact ⟨k, Nat.le_refl _, hkl, rfl, fun q hq h1 h2 => by omega⟩
              case round =>
                obtain ⟨j, hj1, hj2, rfl, hall⟩ := hrel
                have HA := Lib.hid hall
                by_cases hj : j < s.size
                · cases hpp : isPart s[j] with
                  | true =>
                    have HE := Lib.hid hpp
                    clear hpp hall
                    go_wp2_with fail
                    refine (rpart_any s[j] wr).mono ?_
                    rintro e w1 ⟨rfl, hw⟩
                    rw [hw, HE.out]
                    clear hw
                    go_wp2
                    go_round
                    case rel =>
                      refine ⟨j + 1, by omega, by omega, by go_num, fun q hq h1 h2 => ?_⟩
                      by_cases hqj : q < j
                      · exact HA.out q hq h1 hqj
                      · obtain rfl : q = j := by omega
                        exact HE.out
                    case measure => simp [intOf]; omega
                  | false =>
                    have HE := Lib.hid hpp
                    have HPF : Hid (∀ (h : j < s.size), isPart s[j] = false) := Lib.hid (fun _ => HE.out)
                    clear hpp
                    go_wp2_with fail
                    refine (rpart_any s[j] wr).mono ?_
                    rintro e w1 ⟨rfl, hw⟩
                    rw [hw, HE.out]
                    clear hw
                    have HT := Lib.hid (tw_end (p := isPart) hj1 hj2 HA.out HPF.out)
                    have HLX : Hid ((s.extract k j).data.toList.length ≤ 65536) := Lib.hid (by rw [← HT.out.1]; rw [HT.out.2]; omega)
                    have HXS : Hid ((s.extract k j).size ≤ 9223372036854775806) := Lib.hid (by have := HLX.out; rw [size_data] at this; omega)
                    clear hall
                    go_wp2_with fail
                    refine (rname_any (s.extract k j) wr HXS.out).mono ?_
                    rintro e w3 ⟨rfl, hw⟩
                    rw [hw]
                    clear hw
                    cases hnm : nameB (s.extract k j).data.toList with
                    | true =>
                      have HS : Hid (stepL (s.data.toList.drop k) = some (j - k, some ⟨1, (s.extract k j).data.toList, 0, 0⟩)) := Lib.hid (by rw [HSL.out, HT.out.1, hnm, if_pos rfl, ← HT.out.1, HT.out.2])
                      have HI2 : Hid (LexInv s.data.toList j (ts ++ [⟨1, (s.extract k j).data.toList, 0, (k : Int)⟩])) := Lib.hid (by have := inv_tok HI.out HS.out; rw [show k + (j - k) = j by omega] at this; exact this)
                      have hp := (step_pos HS.out).1
                      clear hnm
                      have HOKS : Hid (∀ u ∈ [(⟨1, (s.extract k j).data.toList, 0, (k : Int)⟩ : Tok)], okT u) := Lib.hid (by
                        intro u hu
                        obtain rfl := List.mem_singleton.1 hu
                        refine ⟨by unfold I64; simp only; omega, ?_, by unfold I64; simp only; omega, by unfold I64; simp only; omega⟩
                        have := HLX.out
                        simp only
                        omega)
                      go_wp2_with (at_builtin; (obtain ⟨sx, hsx⟩ : ∃ x, s.extract k j = x := ⟨_, rfl⟩); rw [hsx] at HOKS HI2 ⊢; clear hsx; refine append_toksA rfl (.tmp 78) (.tmp 85) rfl (C := w.heap.size) (v := .slice av nv cv) (vx := .slice (some ⟨wr.heap.size, 0, none⟩) 1 1) (xs := ts) (ys := [⟨1, sx.data.toList, 0, (k : Int)⟩]) rfl (HO.out.alloc _) rfl (src_tok (World.cell?_alloc_at _ _ _ _ rfl) (World.cell?_alloc_at _ _ _ _ rfl) (World.cell?_alloc_at _ _ _ _ rfl) (World.cell?_alloc_at _ _ _ _ rfl)) HOKS.out (by simp; omega) (by simp; omega) ?_; intro v7 w7 ho7 hg7 hat7; have HO7 := Lib.hid ho7; have HG7 := Lib.hid hg7; clear ho7 hg7 hat7)
                      go_roundw
                      case rel => exact ⟨j, _, by go_num, HI2.out, HO7.out, (HBR.out.alloc hzr _).grown HG7.out (by simp; omega) (fun q hq => (HO.out.lt q hq).1)⟩
                      case measure => simp [intOf]; omega
                    | false =>
                      have HS : Hid (stepL (s.data.toList.drop k) = none) := Lib.hid (by rw [HSL.out, HT.out.1, hnm]; rfl)
                      clear hnm
                      have HX := Lib.hid (lex_bad_out (inv_bad HI.out (by rw [HLN.out]; exact hlt) HS.out) (by rw [HLN.out]; exact hsm))
                      go_wp2
                      refine bodyPost_ret (results_tmp3 rfl _ _ _) rfl ?_
                      obtain ⟨x1, x2, x3⟩ := HX.out
                      refine ⟨.slice none 0 0, by rw [x2, x3]; rfl, ?_, HBR.out⟩
                      rw [x1]
                      exact OwnToks.nil _ _
                · obtain rfl : j = s.size := by omega
                  have HPF : Hid (∀ (h : s.size < s.size), isPart s[s.size] = false) := Lib.hid (fun h => by omega)
                  have HT := Lib.hid (tw_end (p := isPart) hj1 hj2 HA.out HPF.out)
                  have HLX : Hid ((s.extract k s.size).data.toList.length ≤ 65536) := Lib.hid (by rw [← HT.out.1]; rw [HT.out.2]; omega)
                  have HXS : Hid ((s.extract k s.size).size ≤ 9223372036854775806) := Lib.hid (by have := HLX.out; rw [size_data] at this; omega)
                  clear hall
                  go_wp2_with fail
                  refine (rname_any (s.extract k s.size) wr HXS.out).mono ?_
                  rintro e w3 ⟨rfl, hw⟩
                  rw [hw]
                  clear hw
                  cases hnm : nameB (s.extract k s.size).data.toList with
                  | true =>
                    have HS : Hid (stepL (s.data.toList.drop k) = some (s.size - k, some ⟨1, (s.extract k s.size).data.toList, 0, 0⟩)) := Lib.hid (by rw [HSL.out, HT.out.1, hnm, if_pos rfl, ← HT.out.1, HT.out.2])
                    have HI2 : Hid (LexInv s.data.toList s.size (ts ++ [⟨1, (s.extract k s.size).data.toList, 0, (k : Int)⟩])) := Lib.hid (by have := inv_tok HI.out HS.out; rw [show k + (s.size - k) = s.size by omega] at this; exact this)
                    have hp := (step_pos HS.out).1
                    clear hnm
                    have HOKS : Hid (∀ u ∈ [(⟨1, (s.extract k s.size).data.toList, 0, (k : Int)⟩ : Tok)], okT u) := Lib.hid (by
                      intro u hu
                      obtain rfl := List.mem_singleton.1 hu
                      refine ⟨by unfold I64; simp only; omega, ?_, by unfold I64; simp only; omega, by unfold I64; simp only; omega⟩
                      have := HLX.out
                      simp only
                      omega)
                    go_wp2_with (at_builtin; (obtain ⟨sx, hsx⟩ : ∃ x, s.extract k s.size = x := ⟨_, rfl⟩); rw [hsx] at HOKS HI2 ⊢; clear hsx; refine append_toksA rfl (.tmp 78) (.tmp 85) rfl (C := w.heap.size) (v := .slice av nv cv) (vx := .slice (some ⟨wr.heap.size, 0, none⟩) 1 1) (xs := ts) (ys := [⟨1, sx.data.toList, 0, (k : Int)⟩]) rfl (HO.out.alloc _) rfl (src_tok (World.cell?_alloc_at _ _ _ _ rfl) (World.cell?_alloc_at _ _ _ _ rfl) (World.cell?_alloc_at _ _ _ _ rfl) (World.cell?_alloc_at _ _ _ _ rfl)) HOKS.out (by simp; omega) (by simp; omega) ?_; intro v7 w7 ho7 hg7 hat7; have HO7 := Lib.hid ho7; have HG7 := Lib.hid hg7; clear ho7 hg7 hat7)
                    go_roundw
                    case rel => exact ⟨s.size, _, by go_num, HI2.out, HO7.out, (HBR.out.alloc hzr _).grown HG7.out (by simp; omega) (fun q hq => (HO.out.lt q hq).1)⟩
                    case measure => simp [intOf]; omega
                  | false =>
                    have HS : Hid (stepL (s.data.toList.drop k) = none) := Lib.hid (by rw [HSL.out, HT.out.1, hnm]; rfl)
                    clear hnm
                    have HX := Lib.hid (lex_bad_out (inv_bad HI.out (by rw [HLN.out]; exact hlt) HS.out) (by rw [HLN.out]; exact hsm))
                    go_wp2
                    refine bodyPost_ret (results_tmp3 rfl _ _ _) rfl ?_
                    obtain ⟨x1, x2, x3⟩ := HX.out
                    refine ⟨.slice none 0 0, by rw [x2, x3]; rfl, ?_, HBR.out⟩
                    rw [x1]
                    exact OwnToks.nil _ _
            | false =>
              have HLE := Lib.hid hlet
              cases hdig : isDig s[k] with
              | true =>
                have hpt := dig_part hdig
                have HSL : Hid (stepL (s.data.toList.drop k) = if numB ((s.data.toList.drop k).takeWhile isDig) then some (((s.data.toList.drop k).takeWhile isDig).length, some ⟨2, [], valOf ((s.data.toList.drop k).takeWhile isDig), 0⟩) else none) := Lib.hid (by
                  rw [HDR.out]
                  simp [stepL, part_spc hpt, part_slash hpt, hlet, hdig])
                have HFIRST := Lib.hid hdig
                have HN47 : Hid (¬ (s[k].toNat : Int) = 47) := Lib.hid (fun e => by
                  have e2 : s[k] = 47 := UInt8.toNat_inj.1 (by show _ = 47; omega)
                  rw [e2] at hdig
                  cases hdig)
                clear hsp hcm hlet hdig hpt
                go_wp2_with fail
                refine (rspace_any s[k] wr).mono ?_
                rintro e w1 ⟨rfl, hw⟩
                rw [hw, H1.out]
                clear hw
                have hn47 := HN47.out
                go_wp2_with fail
                refine (rletter_any s[k] wr).mono ?_
                rintro e w1 ⟨rfl, hw⟩
                rw [hw, HLE.out]
                clear hw
                go_wp2_with fail
                refine (rfigure_any s[k] wr).mono ?_
                rintro e w1 ⟨rfl, hw⟩
                rw [hw, HFIRST.out]
                clear hw
                go_wp2
                go_loop [6] (fun i => ∃ j : Nat, k ≤ j ∧ j ≤ s.size ∧ i = .int .i64 j ∧ ∀ q (hq : q < s.size), k ≤ q → q < j → isDig s[q] = true) (fun i => s.size - (intOf i).toNat)
                case atStart => exact ⟨k, Nat.le_refl _, hkl, rfl, fun q hq h1 h2 => by omega⟩
                case round =>
                  obtain ⟨j, hj1, hj2, rfl, hall⟩ := hrel
                  have HA := Lib.hid hall
                  by_cases hj : j < s.size
                  · cases hpp : isDig s[j] with
                    | true =>
                      have HE := Lib.hid hpp
                      clear hpp hall
                      go_wp2_with fail
                      refine (rfigure_any s[j] wr).mono ?_
                      rintro e w1 ⟨rfl, hw⟩
                      rw [hw, HE.out]
                      clear hw
                      go_wp2
                      go_round
                      case rel =>
                        refine ⟨j + 1, by omega, by omega, by go_num, fun q hq h1 h2 => ?_⟩
                        by_cases hqj : q < j
                        · exact HA.out q hq h1 hqj
                        · obtain rfl : q = j := by omega
                          exact HE.out
                      case measure => simp [intOf]; omega
                    | false =>
                      have HE := Lib.hid hpp
                      have HPF : Hid (∀ (h : j < s.size), isDig s[j] = false) := Lib.hid (fun _ => HE.out)
                      clear hpp
                      go_wp2_with fail
                      refine (rfigure_any s[j] wr).mono ?_
                      rintro e w1 ⟨rfl, hw⟩
                      rw [hw, HE.out]
                      clear hw
                      have HT := Lib.hid (tw_end (p := isDig) hj1 hj2 HA.out HPF.out)
                      have hkj : k ≠ j := by rintro rfl; have := HE.out; rw [HFIRST.out] at this; cases this
                      have HLX : Hid ((s.extract k j).data.toList.length = j - k) := Lib.hid (by rw [← HT.out.1]; rw [HT.out.2])
                      have HXS : Hid ((s.extract k j).size = j - k) := Lib.hid (by have := HLX.out; rw [size_data] at this; exact this)
                      have HXD : Hid (∀ c ∈ (s.extract k j).data.toList, isDig c = true) := Lib.hid (by rw [← HT.out.1]; exact fun c hc => mem_tw hc)
                      clear hall
                      go_wp2_with fail
                      refine (rnumber_any (s.extract k j) wr HXD.out (by rw [HXS.out]; omega) (by rw [HXS.out]; omega)).mono ?_
                      rintro e w3 ⟨⟨nn, rfl, hnn⟩, hdw⟩
                      have HBR3 : Hid (Below w.heap.size w w3) := Lib.hid (HBR.out.trans (hdw.below _))
                      have HO3 : Hid (OwnToks w.heap.size w3 (.slice av nv cv) ts) := Lib.hid (HO.out.below (hdw.below _))
                      have hz3 := HBR3.out.size
                      clear hdw
                      cases hnm : numB (s.extract k j).data.toList with
                      | true =>
                        have hn2 := hnn hnm
                        have HS : Hid (stepL (s.data.toList.drop k) = some (j - k, some ⟨2, [], (valOf (s.extract k j).data.toList : Int), 0⟩)) := Lib.hid (by rw [HSL.out, HT.out.1, hnm, if_pos rfl, HLX.out])
                        have HI2 : Hid (LexInv s.data.toList j (ts ++ [⟨2, [], (valOf (s.extract k j).data.toList : Int), (k : Int)⟩])) := Lib.hid (by have := inv_tok HI.out HS.out; rw [show k + (j - k) = j by omega] at this; exact this)
                        have hp := (step_pos HS.out).1
                        have hvb : (valOf (s.extract k j).data.toList : Int) ≤ 1099511627776 := by
                          have := hnm
                          unfold numB at this
                          simp only [Bool.and_eq_true, decide_eq_true_eq] at this
                          omega
                        have HOKS : Hid (∀ u ∈ [(⟨2, [], (valOf (s.extract k j).data.toList : Int), (k : Int)⟩ : Tok)], okT u) := Lib.hid (by
                          intro u hu
                          obtain rfl := List.mem_singleton.1 hu
                          exact ⟨by unfold I64; simp only; omega, by simp, by unfold I64; simp only; omega, by unfold I64; simp only; omega⟩)
                        rw [← hn2] at HI2 HOKS
                        clear hnm hnn hn2 hvb
                        go_wp2_with (at_builtin; refine append_toksA rfl (.tmp 114) (.tmp 118) rfl (C := w.heap.size) (v := .slice av nv cv) (vx := .slice (some ⟨w3.heap.size, 0, none⟩) 1 1) (xs := ts) (ys := [⟨2, [], nn, (k : Int)⟩]) rfl (HO3.out.alloc _) rfl (src_tok (World.cell?_alloc_at _ _ _ _ rfl) (World.cell?_alloc_at _ _ _ _ rfl) (World.cell?_alloc_at _ _ _ _ rfl) (World.cell?_alloc_at _ _ _ _ rfl)) HOKS.out (by simp; omega) (by simp; omega) ?_; intro v7 w7 ho7 hg7 hat7; have HO7 := Lib.hid ho7; have HG7 := Lib.hid hg7; clear ho7 hg7 hat7)
                        go_roundw
                        case rel => exact ⟨j, _, by go_num, HI2.out, HO7.out, (HBR3.out.alloc hz3 _).grown HG7.out (by simp; omega) (fun q hq => (HO3.out.lt q hq).1)⟩
                        case measure => simp [intOf]; omega
                      | false =>
                        have HS : Hid (stepL (s.data.toList.drop k) = none) := Lib.hid (by rw [HSL.out, HT.out.1, hnm]; rfl)
                        clear hnm hnn
                        have HX := Lib.hid (lex_bad_out (inv_bad HI.out (by rw [HLN.out]; exact hlt) HS.out) (by rw [HLN.out]; exact hsm))
                        go_wp2
                        refine bodyPost_ret (results_tmp3 rfl _ _ _) rfl ?_
                        obtain ⟨x1, x2, x3⟩ := HX.out
                        refine ⟨.slice none 0 0, by rw [x2, x3]; rfl, ?_, HBR3.out⟩
                        rw [x1]
                        exact OwnToks.nil _ _
                  · obtain rfl : j = s.size := by omega
                    have HPF : Hid (∀ (h : s.size < s.size), isDig s[s.size] = false) := Lib.hid (fun h => by omega)
                    have HT := Lib.hid (tw_end (p := isDig) hj1 hj2 HA.out HPF.out)
                    have hkj : k ≠ s.size := by omega
                    have HLX : Hid ((s.extract k s.size).data.toList.length = s.size - k) := Lib.hid (by rw [← HT.out.1]; rw [HT.out.2])
                    have HXS : Hid ((s.extract k s.size).size = s.size - k) := Lib.hid (by have := HLX.out; rw [size_data] at this; exact this)
                    have HXD : Hid (∀ c ∈ (s.extract k s.size).data.toList, isDig c = true) := Lib.hid (by rw [← HT.out.1]; exact fun c hc => mem_tw hc)
                    clear hall
                    go_wp2_with fail
                    refine (rnumber_any (s.extract k s.size) wr HXD.out (by rw [HXS.out]; omega) (by rw [HXS.out]; omega)).mono ?_
                    rintro e w3 ⟨⟨nn, rfl, hnn⟩, hdw⟩
                    have HBR3 : Hid (Below w.heap.size w w3) := Lib.hid (HBR.out.trans (hdw.below _))
                    have HO3 : Hid (OwnToks w.heap.size w3 (.slice av nv cv) ts) := Lib.hid (HO.out.below (hdw.below _))
                    have hz3 := HBR3.out.size
                    clear hdw
                    cases hnm : numB (s.extract k s.size).data.toList with
                    | true =>
                      have hn2 := hnn hnm
                      have HS : Hid (stepL (s.data.toList.drop k) = some (s.size - k, some ⟨2, [], (valOf (s.extract k s.size).data.toList : Int), 0⟩)) := Lib.hid (by rw [HSL.out, HT.out.1, hnm, if_pos rfl, HLX.out])
                      have HI2 : Hid (LexInv s.data.toList s.size (ts ++ [⟨2, [], (valOf (s.extract k s.size).data.toList : Int), (k : Int)⟩])) := Lib.hid (by have := inv_tok HI.out HS.out; rw [show k + (s.size - k) = s.size by omega] at this; exact this)
                      have hp := (step_pos HS.out).1
                      have hvb : (valOf (s.extract k s.size).data.toList : Int) ≤ 1099511627776 := by
                        have := hnm
                        unfold numB at this
                        simp only [Bool.and_eq_true, decide_eq_true_eq] at this
                        omega
                      have HOKS : Hid (∀ u ∈ [(⟨2, [], (valOf (s.extract k s.size).data.toList : Int), (k : Int)⟩ : Tok)], okT u) := Lib.hid (by
                        intro u hu
                        obtain rfl := List.mem_singleton.1 hu
                        exact ⟨by unfold I64; simp only; omega, by simp, by unfold I64; simp only; omega, by unfold I64; simp only; omega⟩)
                      rw [← hn2] at HI2 HOKS
                      clear hnm hnn hn2 hvb
                      go_wp2_with (at_builtin; refine append_toksA rfl (.tmp 114) (.tmp 118) rfl (C := w.heap.size) (v := .slice av nv cv) (vx := .slice (some ⟨w3.heap.size, 0, none⟩) 1 1) (xs := ts) (ys := [⟨2, [], nn, (k : Int)⟩]) rfl (HO3.out.alloc _) rfl (src_tok (World.cell?_alloc_at _ _ _ _ rfl) (World.cell?_alloc_at _ _ _ _ rfl) (World.cell?_alloc_at _ _ _ _ rfl) (World.cell?_alloc_at _ _ _ _ rfl)) HOKS.out (by simp; omega) (by simp; omega) ?_; intro v7 w7 ho7 hg7 hat7; have HO7 := Lib.hid ho7; have HG7 := Lib.hid hg7; clear ho7 hg7 hat7)
                      go_roundw
                      case rel => exact ⟨s.size, _, by go_num, HI2.out, HO7.out, (HBR3.out.alloc hz3 _).grown HG7.out (by simp; omega) (fun q hq => (HO3.out.lt q hq).1)⟩
                      case measure => simp [intOf]; omega
                    | false =>
                      have HS : Hid (stepL (s.data.toList.drop k) = none) := Lib.hid (by rw [HSL.out, HT.out.1, hnm]; rfl)
                      clear hnm hnn
                      have HX := Lib.hid (lex_bad_out (inv_bad HI.out (by rw [HLN.out]; exact hlt) HS.out) (by rw [HLN.out]; exact hsm))
                      go_wp2
                      refine bodyPost_ret (results_tmp3 rfl _ _ _) rfl ?_
                      obtain ⟨x1, x2, x3⟩ := HX.out
                      refine ⟨.slice none 0 0, by rw [x2, x3]; rfl, ?_, HBR3.out⟩
                      rw [x1]
                      exact OwnToks.nil _ _
              | false =>
                have HDE := Lib.hid hdig
                have HSL : Hid (stepL (s.data.toList.drop k) = if isSgn s[k] then some (1, some ⟨3, [s[k]], 0, 0⟩) else none) := Lib.hid (by
                  rw [HDR.out]
                  simp only [stepL, hsp, hcm, hlet, hdig]
                  simp)
                have HXE : Hid ((s.extract k (k + 1)).data.toList = [s[k]]) := Lib.hid (by rw [extract_one hlt])
                have h47c : ¬ (s[k].toNat : Int) = 47 ∨ ((s[k].toNat : Int) = 47 ∧ (¬ k + 1 < s.size ∨ ∃ h : k + 1 < s.size, ¬ (s[k + 1].toNat : Int) = 47)) := by
                  by_cases e1 : s[k] = 47
                  · right
                    refine ⟨by rw [e1]; rfl, ?_⟩
                    by_cases e2 : k + 1 < s.size
                    · right
                      refine ⟨e2, fun e3 => ?_⟩
                      have e4 : s[k + 1] = 47 := UInt8.toNat_inj.1 (by show _ = 47; omega)
                      rw [List.head?_drop, HG.out (k + 1) e2, e4, e1] at hcm
                      simp at hcm
                    · exact .inl e2
                  · left
                    intro e2
                    exact e1 (UInt8.toNat_inj.1 (by show _ = 47; omega))
                have H47 := Lib.hid h47c
                clear hsp hcm hlet hdig h47c
                go_wp2_with fail
                refine (rspace_any s[k] wr).mono ?_
                rintro e w1 ⟨rfl, hw⟩
                rw [hw, H1.out]
                clear hw
                cases hsg : isSgn s[k] with
                | true =>
                  have HSG := Lib.hid hsg
                  have HS : Hid (stepL (s.data.toList.drop k) = some (1, some ⟨3, [s[k]], 0, 0⟩)) := Lib.hid (by rw [HSL.out, hsg, if_pos rfl])
                  have HI2 : Hid (LexInv s.data.toList (k + 1) (ts ++ [⟨3, (s.extract k (k + 1)).data.toList, 0, (k : Int)⟩])) := Lib.hid (by have := inv_tok HI.out HS.out; rw [HXE.out]; exact this)
                  have HOKS : Hid (∀ u ∈ [(⟨3, (s.extract k (k + 1)).data.toList, 0, (k : Int)⟩ : Tok)], okT u) := Lib.hid (by
                    intro u hu
                    obtain rfl := List.mem_singleton.1 hu
                    exact ⟨by unfold I64; simp only; omega, by rw [HXE.out]; simp, by unfold I64; simp only; omega, by unfold I64; simp only; omega⟩)
                  clear hsg
                  rcases H47.out with g | ⟨g, g2 | ⟨g2, g3⟩⟩
                  · go_upto_region 12 with fail
                    clear g
                    go_wp2_with fail
                    refine (rletter_any s[k] wr).mono ?_
                    rintro e w1 ⟨rfl, hw⟩
                    rw [hw, HLE.out]
                    clear hw
                    go_wp2_with fail
                    refine (rfigure_any s[k] wr).mono ?_
                    rintro e w1 ⟨rfl, hw⟩
                    rw [hw, HDE.out]
                    clear hw
                    go_wp2_with fail
                    refine (rsign_any s[k] wr).mono ?_
                    rintro e w1 ⟨rfl, hw⟩
                    rw [hw, HSG.out]
                    clear hw
                    go_wp2_with (at_builtin; (obtain ⟨sx, hsx⟩ : ∃ x, s.extract k (k + 1) = x := ⟨_, rfl⟩); rw [hsx] at HOKS HI2 ⊢; clear hsx; refine append_toksA rfl (.tmp 128) (.tmp 135) rfl (C := w.heap.size) (v := .slice av nv cv) (vx := .slice (some ⟨wr.heap.size, 0, none⟩) 1 1) (xs := ts) (ys := [⟨3, sx.data.toList, 0, (k : Int)⟩]) rfl (HO.out.alloc _) rfl (src_tok (World.cell?_alloc_at _ _ _ _ rfl) (World.cell?_alloc_at _ _ _ _ rfl) (World.cell?_alloc_at _ _ _ _ rfl) (World.cell?_alloc_at _ _ _ _ rfl)) HOKS.out (by simp; omega) (by simp; omega) ?_; intro v7 w7 ho7 hg7 hat7; have HO7 := Lib.hid ho7; have HG7 := Lib.hid hg7; clear ho7 hg7 hat7)
                    go_roundw
                    case rel => exact ⟨k + 1, _, by go_num, HI2.out, HO7.out, (HBR.out.alloc hzr _).grown HG7.out (by simp; omega) (fun q hq => (HO.out.lt q hq).1)⟩
                    case measure => simp [intOf]; omega
                  · have g2 : ¬ (k : Int) + 1 < (s.size : Int) := by omega
                    go_upto_region 12 with fail
                    clear g
                    go_wp2_with fail
                    refine (rletter_any s[k] wr).mono ?_
                    rintro e w1 ⟨rfl, hw⟩
                    rw [hw, HLE.out]
                    clear hw
                    go_wp2_with fail
                    refine (rfigure_any s[k] wr).mono ?_
                    rintro e w1 ⟨rfl, hw⟩
                    rw [hw, HDE.out]
                    clear hw
                    go_wp2_with fail
                    refine (rsign_any s[k] wr).mono ?_
                    rintro e w1 ⟨rfl, hw⟩
                    rw [hw, HSG.out]
                    clear hw
                    go_wp2_with (at_builtin; (obtain ⟨sx, hsx⟩ : ∃ x, s.extract k (k + 1) = x := ⟨_, rfl⟩); rw [hsx] at HOKS HI2 ⊢; clear hsx; refine append_toksA rfl (.tmp 128) (.tmp 135) rfl (C := w.heap.size) (v := .slice av nv cv) (vx := .slice (some ⟨wr.heap.size, 0, none⟩) 1 1) (xs := ts) (ys := [⟨3, sx.data.toList, 0, (k : Int)⟩]) rfl (HO.out.alloc _) rfl (src_tok (World.cell?_alloc_at _ _ _ _ rfl) (World.cell?_alloc_at _ _ _ _ rfl) (World.cell?_alloc_at _ _ _ _ rfl) (World.cell?_alloc_at _ _ _ _ rfl)) HOKS.out (by simp; omega) (by simp; omega) ?_; intro v7 w7 ho7 hg7 hat7; have HO7 := Lib.hid ho7; have HG7 := Lib.hid hg7; clear ho7 hg7 hat7)
                    go_roundw
                    case rel => exact ⟨k + 1, _, by go_num, HI2.out, HO7.out, (HBR.out.alloc hzr _).grown HG7.out (by simp; omega) (fun q hq => (HO.out.lt q hq).1)⟩
                    case measure => simp [intOf]; omega
                  · have g4 : (k : Int) + 1 < (s.size : Int) := by omega
                    go_upto_region 12 with fail
                    clear g
                    go_wp2_with fail
                    refine (rletter_any s[k] wr).mono ?_
                    rintro e w1 ⟨rfl, hw⟩
                    rw [hw, HLE.out]
                    clear hw
                    go_wp2_with fail
                    refine (rfigure_any s[k] wr).mono ?_
                    rintro e w1 ⟨rfl, hw⟩
                    rw [hw, HDE.out]
                    clear hw
                    go_wp2_with fail
                    refine (rsign_any s[k] wr).mono ?_
                    rintro e w1 ⟨rfl, hw⟩
                    rw [hw, HSG.out]
                    clear hw
                    go_wp2_with (at_builtin; (obtain ⟨sx, hsx⟩ : ∃ x, s.extract k (k + 1) = x := ⟨_, rfl⟩); rw [hsx] at HOKS HI2 ⊢; clear hsx; refine append_toksA rfl (.tmp 128) (.tmp 135) rfl (C := w.heap.size) (v := .slice av nv cv) (vx := .slice (some ⟨wr.heap.size, 0, none⟩) 1 1) (xs := ts) (ys := [⟨3, sx.data.toList, 0, (k : Int)⟩]) rfl (HO.out.alloc _) rfl (src_tok (World.cell?_alloc_at _ _ _ _ rfl) (World.cell?_alloc_at _ _ _ _ rfl) (World.cell?_alloc_at _ _ _ _ rfl) (World.cell?_alloc_at _ _ _ _ rfl)) HOKS.out (by simp; omega) (by simp; omega) ?_; intro v7 w7 ho7 hg7 hat7; have HO7 := Lib.hid ho7; have HG7 := Lib.hid hg7; clear ho7 hg7 hat7)
                    go_roundw
                    case rel => exact ⟨k + 1, _, by go_num, HI2.out, HO7.out, (HBR.out.alloc hzr _).grown HG7.out (by simp; omega) (fun q hq => (HO.out.lt q hq).1)⟩
                    case measure => simp [intOf]; omega
                | false =>
                  have HSG := Lib.hid hsg
                  have HS : Hid (stepL (s.data.toList.drop k) = none) := Lib.hid (by rw [HSL.out, hsg]; rfl)
                  clear hsg
                  rcases H47.out with g | ⟨g, g2 | ⟨g2, g3⟩⟩
                  · go_upto_region 12 with fail
                    clear g
                    go_wp2_with fail
                    refine (rletter_any s[k] wr).mono ?_
                    rintro e w1 ⟨rfl, hw⟩
                    rw [hw, HLE.out]
                    clear hw
                    go_wp2_with fail
                    refine (rfigure_any s[k] wr).mono ?_
                    rintro e w1 ⟨rfl, hw⟩
                    rw [hw, HDE.out]
                    clear hw
                    go_wp2_with fail
                    refine (rsign_any s[k] wr).mono ?_
                    rintro e w1 ⟨rfl, hw⟩
                    rw [hw, HSG.out]
                    clear hw
                    have HX := Lib.hid (lex_bad_out (inv_bad HI.out (by rw [HLN.out]; exact hlt) HS.out) (by rw [HLN.out]; exact hsm))
                    go_wp2
                    refine bodyPost_ret (results_tmp3 rfl _ _ _) rfl ?_
                    obtain ⟨x1, x2, x3⟩ := HX.out
                    refine ⟨.slice none 0 0, by rw [x2, x3]; rfl, ?_, HBR.out⟩
                    rw [x1]
                    exact OwnToks.nil _ _
                  · have g2 : ¬ (k : Int) + 1 < (s.size : Int) := by omega
                    go_upto_region 12 with fail
                    clear g
                    go_wp2_with fail
                    refine (rletter_any s[k] wr).mono ?_
                    rintro e w1 ⟨rfl, hw⟩
                    rw [hw, HLE.out]
                    clear hw
                    go_wp2_with fail
                    refine (rfigure_any s[k] wr).mono ?_
                    rintro e w1 ⟨rfl, hw⟩
                    rw [hw, HDE.out]
                    clear hw
                    go_wp2_with fail
                    refine (rsign_any s[k] wr).mono ?_
                    rintro e w1 ⟨rfl, hw⟩
                    rw [hw, HSG.out]
                    clear hw
                    have HX := Lib.hid (lex_bad_out (inv_bad HI.out (by rw [HLN.out]; exact hlt) HS.out) (by rw [HLN.out]; exact hsm))
                    go_wp2
                    refine bodyPost_ret (results_tmp3 rfl _ _ _) rfl ?_
                    obtain ⟨x1, x2, x3⟩ := HX.out
                    refine ⟨.slice none 0 0, by rw [x2, x3]; rfl, ?_, HBR.out⟩
                    rw [x1]
                    exact OwnToks.nil _ _
                  · have g4 : (k : Int) + 1 < (s.size : Int) := by omega
                    go_upto_region 12 with fail
                    clear g
                    go_wp2_with fail
                    refine (rletter_any s[k] wr).mono ?_
                    rintro e w1 ⟨rfl, hw⟩
                    rw [hw, HLE.out]
                    clear hw
                    go_wp2_with fail
                    refine (rfigure_any s[k] wr).mono ?_
                    rintro e w1 ⟨rfl, hw⟩
                    rw [hw, HDE.out]
                    clear hw
                    go_wp2_with fail
                    refine (rsign_any s[k] wr).mono ?_
                    rintro e w1 ⟨rfl, hw⟩
                    rw [hw, HSG.out]
                    clear hw
                    have HX := Lib.hid (lex_bad_out (inv_bad HI.out (by rw [HLN.out]; exact hlt) HS.out) (by rw [HLN.out]; exact hsm))
                    go_wp2
                    refine bodyPost_ret (results_tmp3 rfl _ _ _) rfl ?_
                    obtain ⟨x1, x2, x3⟩ := HX.out
                    refine ⟨.slice none 0 0, by rw [x2, x3]; rfl, ?_, HBR.out⟩
                    rw [x1]
                    exact OwnToks.nil _ _
      · have hge : s.data.toList.length ≤ k := by rw [HLN.out]; omega
        obtain rfl : k = s.size := by omega
        have HX := Lib.hid (lex_good_out (inv_end HI.out hge) (by rw [HLN.out]; exact hsm))
        clear hge
        go_wp2
        refine bodyPost_ret (results_tmp3 rfl _ _ _) rfl ?_
        obtain ⟨x1, x2, x3⟩ := HX.out
        refine ⟨.slice av nv cv, by rw [x2, x3]; rfl, ?_, HBR.out⟩
        rw [x1]
        exact HO.out
end Go.Proofs.YtfnmidddgjlipaaGreatDoor

/-
  Layer 17: the walk of the specification's Parse, and of SyntaxSpec.
-/
set_option linter.unusedVariables false
set_option linter.unusedSimpArgs false
namespace Go.Proofs.YtfnmidddgjlipaaGreatDoor
open Go.RowKit

theorem lexT_max (l : List UInt8) : (lexT l).length ≤ 65536 := lexT_len l
set_option maxHeartbeats 4000000 in
set_option maxRecDepth 100000 in
theorem zparse_any (src : ByteArray) (w : World) (hs : src.size ≤ 9223372036854775806) :
    Calls Tryz.prog 7 #[.string src] w fun e w' => (∃ v, e = .returned (.tuple #[v, .int .i64 (parP src.data.toList), .int .i64 (parE src.data.toList)]) ∧ IsWishes w'.heap.size w' v (parL src.data.toList)) ∧ Below w.heap.size w w' := by
  obtain ⟨A, hA⟩ : ∃ A, src.data.toList = A := ⟨_, rfl⟩
  have HA : Hid (A.length = src.size) := Lib.hid (by rw [← hA]; exact size_data src)
  have HAA := Lib.hid hA
  rw [hA]
  clear hA
  have HTM : Hid ((lexT A).length ≤ 65536) := Lib.hid (lexT_max A)
  have HTV : Hid (∀ t ∈ lexT A, validB t = true) := Lib.hid (lexT_valid A)
  have HPE : Hid (parE A = if lexE A = 0 then readE (lexT A) else lexE A) := Lib.hid rfl
  have HPP : Hid (parP A = if lexE A = 0 then readP A.length (lexT A) else lexP A) := Lib.hid rfl
  have HPL : Hid (parL A = if lexE A = 0 then readL (lexT A) else []) := Lib.hid rfl
  go_enter Tryz.func7, Tryz.ntmps7
  go_wp2_with fail
  refine (rlex_any src w hs).mono ?_
  rintro e w1 ⟨v1, he, ho, hb⟩
  rw [HAA.out] at he ho
  have HB1 := Lib.hid hb
  have HT := Lib.hid ho.isToks
  obtain ⟨a1, c1, rfl⟩ := ho.form
  obtain ⟨ET, hET⟩ : ∃ E, lexE A = E := ⟨_, rfl⟩
  obtain ⟨PT, hPT⟩ : ∃ E, lexP A = E := ⟨_, rfl⟩
  obtain ⟨T, hT⟩ : ∃ L, lexT A = L := ⟨_, rfl⟩
  rw [hT] at HTM HTV HT
  rw [hET, hT] at HPE HPL
  rw [hET, hT, hPT] at HPP
  rw [hET, hPT, hT] at he
  subst he
  clear ho hb hET hPT hT
  by_cases hE : ET = 0
  rotate_left
  · have hEb : (ET != 0) = true := by simpa using hE
    have HQ : Hid (parE A = ET ∧ parP A = PT ∧ parL A = []) := Lib.hid (by rw [HPE.out, HPP.out, HPL.out, if_neg hE, if_neg hE, if_neg hE]; exact ⟨rfl, rfl, rfl⟩)
    clear hE
    go_wp2
    refine bodyPost_ret (results_tmp3 rfl _ _ _) rfl ?_
    obtain ⟨q1, q2, q3⟩ := HQ.out
    refine ⟨⟨_, by rw [q1, q2]; rfl, by rw [q3]; exact IsRecs.nil⟩, HB1.out⟩
  subst hE
  simp only [if_true] at HPE HPP HPL
  have HTO : Hid (∀ t ∈ T, okT t) := Lib.hid (by obtain ⟨_, _, _, _, _, h, _⟩ := HT.out; exact h)
  obtain ⟨N, hN⟩ : ∃ N, T.length = N := ⟨_, rfl⟩
  have HN := Lib.hid hN
  rw [hN] at HT HTM ⊢
  clear hN
  have HRD := Lib.hid (zread_any w1.heap.size w1 a1 N c1 T (src.size : Int) HTV.out HTO.out (by have := HTM.out; omega) HN.out (Nat.le_refl _) HT.out)
  rw [HA.out] at HPP
  go_wp2_with fail
  refine HRD.out.mono ?_
  clear HRD
  rintro e w2 ⟨⟨v2, zs, s2, rfl, ho, hrd⟩, hb⟩
  have HB2 : Hid (Below w.heap.size w w2) := Lib.hid (HB1.out.trans (hb.mono HB1.out.size))
  have HO2 := Lib.hid ho
  obtain ⟨a2, n2, c2, rfl⟩ := ho.form'
  have HR2 : Hid (match pRead T with
    | .error e => s2.bad = true ∧ s2.at_ = placeOf (src.size : Int) e
    | .ok ys => s2.bad = false ∧ zs = ys) := Lib.hid (by unfold readZ at hrd; exact hrd)
  clear ho hb hrd
  obtain ⟨n3, b3, at3⟩ := s2
  unfold pv pvC
  simp only
  obtain ⟨W, hW⟩ : ∃ W, w2.alloc (.cells #[.slice a1 N c1, .int .i64 (n3 : Int), .int .i64 (src.size : Int), .bool b3, .int .i64 at3] 40) = W := ⟨_, rfl⟩
  have HB3 : Hid (Below w.heap.size w W) := Lib.hid (by rw [← hW]; exact HB2.out.alloc HB2.out.size _)
  have HO3 := Lib.hid (OwnDeep.below wishSK HO2.out (box_below' w2 (.cells #[.slice a1 N c1, .int .i64 (n3 : Int), .int .i64 (src.size : Int), .bool b3, .int .i64 at3] 40)))
  rw [hW] at HO3
  have HC3 : Hid (CellsN W w2.heap.size #[.slice a1 N c1, .int .i64 (n3 : Int), .int .i64 (src.size : Int), .bool b3, .int .i64 at3]) := Lib.hid (by rw [← hW]; exact CellsN.new _ _ _)
  have HW := Lib.hid hW
  clear hW
  go_upto_region 5 with fail
  rw [HW.out]
  have m0 := HC3.out.cell 0
  have m1 := HC3.out.cell 1
  have m2 := HC3.out.cell 2
  have m3 := HC3.out.cell 3
  have m4 := HC3.out.cell 4
  simp at m0 m1 m2 m3 m4
  cases hr : pRead T with
  | error e0 =>
    have h2 := HR2.out
    rw [hr] at h2
    obtain ⟨h3, h4⟩ := h2
    have h3' : b3 = true := h3
    subst h3'
    have h4' : at3 = placeOf (src.size : Int) e0 := h4
    have HQ : Hid (parE A = 170 ∧ parP A = at3 ∧ parL A = []) := Lib.hid (by rw [HPE.out, HPP.out, HPL.out]; unfold readE readP readL; rw [hr]; exact ⟨rfl, h4'.symm, rfl⟩)
    clear hr h3 h4 h4' HR2
    go_upto_region 6 with fail
    go_quiet (fail)
    go_wp2
    refine bodyPost_ret (results_tmp3 rfl _ _ _) rfl ?_
    obtain ⟨q1, q2, q3⟩ := HQ.out
    exact ⟨⟨_, by rw [q1, q2]; rfl, by rw [q3]; exact IsRecs.nil⟩, HB3.out.trans ((Drew.refl W).drewN _ |>.below _)⟩
  | ok ys =>
    have h2 := HR2.out
    rw [hr] at h2
    obtain ⟨h3, h4⟩ := h2
    have h3' : b3 = false := h3
    subst h3'
    subst h4
    have HQ : Hid (parE A = 0 ∧ parP A = 0 ∧ parL A = zs) := Lib.hid (by rw [HPE.out, HPP.out, HPL.out]; unfold readE readP readL; rw [hr]; exact ⟨rfl, rfl, rfl⟩)
    clear hr h3 HR2
    go_wp2
    refine bodyPost_ret (results_tmp3 rfl _ _ _) rfl ?_
    obtain ⟨q1, q2, q3⟩ := HQ.out
    exact ⟨⟨_, by rw [q1, q2]; rfl, by rw [q3]; exact ownWs_is HO3.out⟩, HB3.out⟩
end Go.Proofs.YtfnmidddgjlipaaGreatDoor

/-
  Layer 17: the walk of SyntaxSpec.
-/
set_option linter.unusedVariables false
set_option linter.unusedSimpArgs false
namespace Go.Proofs.YtfnmidddgjlipaaGreatDoor
open Go.RowKit

set_option maxHeartbeats 4000000 in
set_option maxRecDepth 100000 in
theorem syntaxSpec_any (s : ByteArray) (w : World) (hL : LaidW w) (hs : s.size ≤ 140737488351232) :
    Calls Tryz.prog 3 #[.string s] w fun e w' => e = .returned (.bool true) ∧ Below w.heap.size w w' := by
  have HL0 := Lib.hid hL
  have h4 := hL.size
  clear hL
  go_enter Tryz.func3, Tryz.ntmps3
  go_wp2_with fail
  refine (sane17_any w HL0.out).mono ?_
  rintro e w1 ⟨rfl, hb⟩
  have HB1 := Lib.hid hb
  have HL1 := Lib.hid (HL0.out.below hb h4)
  clear hb
  by_cases hbig : 2000 < s.size
  · have hbig2 : (2000 : Int) < (s.size : Int) := by omega
    go_wp2
    go_ret
    exact ⟨rfl, HB1.out⟩
  have hbig2 : ¬ (2000 : Int) < (s.size : Int) := by omega
  obtain ⟨A, hA⟩ : ∃ A, s.data.toList = A := ⟨_, rfl⟩
  have HA := Lib.hid hA
  clear hA
  go_wp2_with fail
  refine (parse_any s w1 HL1.out (by omega)).mono ?_
  rintro e w2 ⟨v1, he, ho, hb⟩
  rw [HA.out] at he ho
  have HB2 : Hid (Below w.heap.size w w2) := Lib.hid (HB1.out.trans (hb.mono HB1.out.size))
  have HX := Lib.hid (ownWs_is ho)
  obtain ⟨a1, c1, rfl⟩ := ho.form
  subst he
  clear ho hb
  go_wp2_with fail
  refine (zparse_any s w2 (by omega)).mono ?_
  rintro e w3 ⟨⟨v2, he, hi⟩, hb⟩
  rw [HA.out] at he hi
  have HB3 : Hid (Below w.heap.size w w3) := Lib.hid (HB2.out.trans (hb.mono HB2.out.size))
  have HX3 : Hid (IsWishes w3.heap.size w3 _ (parL A)) := Lib.hid ((IsRecs.below wishK HX.out hb (Nat.le_refl _)).mono wishK hb.size)
  have HI := Lib.hid hi
  obtain ⟨a2, c2, rfl, _⟩ := hi.form
  subst he
  clear hi hb
  obtain ⟨EE, hEE⟩ : ∃ E, parE A = E := ⟨_, rfl⟩
  obtain ⟨PP, hPP⟩ : ∃ E, parP A = E := ⟨_, rfl⟩
  rw [hEE, hPP]
  clear hEE hPP
  go_wp2_with fail
  refine (rsame17_any w3.heap.size w3 _ _ (parL A) (parL A) (Nat.le_refl _) HX3.out HI.out).mono ?_
  rintro e w4 ⟨rfl, hb⟩
  have HB4 : Hid (Below w.heap.size w w4) := Lib.hid (HB3.out.trans (hb.mono HB3.out.size))
  rw [show sameWs (parL A) (parL A) = true from by unfold sameWs; simp]
  clear hb
  go_wp2
  go_ret
  exact ⟨by simp, HB4.out⟩
end Go.Proofs.YtfnmidddgjlipaaGreatDoor

/-
  SyntaxSpec holds, and its card: for all arguments the law returns true, and the arguments read as before.
  Conditions: what the row lists of package-level variables; the card ties that to the program's text.
-/
set_option linter.unusedVariables false
set_option linter.unusedSimpArgs false
namespace Go.Proofs.YtfnmidddgjlipaaGreatDoor
open Go.ChangeShapes Go.WideShapes Go.ChangeAt Go.RowKit
open Go.ChangeMaps (open_string shut_string)

set_option maxRecDepth 100000 in
theorem syntaxSpec_lifted (os : Os) (started : os.Started) (H : Type) (enc : TypeId × Value → H) :
    ReturnsInHanded {} Tryz.checked os 3 .any (fun w args => (Rows.syntaxSpecSpec.pre enc Tryz.prog Tryz.f3 Rows.syntaxSpecRow.domain false w args ∧ laidMetH Tryz.prog laid5 w) ∧ sizedMet enc Tryz.prog Tryz.f3 (OpenSpec.ofChange Rows.syntaxSpecSpec) false w args)
      (Rows.syntaxSpecSpec.post enc Tryz.prog Tryz.f3 false true false false) := by
  refine returnsInHanded_of_change_and (C := Tryz.checked) (X := fun w _ => laidMetH Tryz.prog laid5 w) (fun _ _ _ hh h => h.of_heap hh) seat_own started (by kernel_rfl) Tryz.func3
    (ChangeSpec.witness_shaped (enc := enc) (C := Tryz.checked) (os := os) (X := fun w _ => laidMetH Tryz.prog laid5 w) false (World.doorLaid Tryz.prog 400 os) #[.string ByteArray.empty] 8 rfl (World.shaped_of_RefB (by kernel_rfl) (by kernel_rfl)) (by kernel_rfl) (by kernel_rfl) (by kernel_rfl) (door_met os _)) ?_
  intro W base args ds gs before hval0 hW _ hsz0 hL0 _
  have hsz : (DataW.weightsEach Tryz.prog (Tryz.f3.params.toList ++ Rows.syntaxSpecSpec.plain.varTypes Tryz.prog) (ds ++ gs)).all (· ≤ reachBytes) = true := hsz0
  have hval : ∀ (j : Nat) t v, Tryz.f3.params[j]? = some t → args[j]? = some v → Value.okWide Tryz.prog W .any base t v := hval0
  have HL := laid_of hL0
  have hW' := hW
  obtain ⟨p, q, hA0, hV, rfl, hfz, hnd⟩ := hW
  have hA : DataW.TrodAll enc Tryz.prog W 0 (fun _ => true) true Tryz.f3.params.toList args.toList ds p := hA0
  rw [Tryz.params3] at hA hval hsz
  obtain ⟨v0, vs0, d0, ds0, p0, q0, e0, rfl, rfl, h0, r0⟩ := trodAll_cons hA
  obtain ⟨rfl, rfl, rfl⟩ := trodAll_nil r0
  obtain rfl : args = #[v0] := by cases args; simp_all
  obtain ⟨rfl, rfl⟩ := trodVars_none hV
  have hw : ∀ n ∈ DataW.weightsEach Tryz.prog [9] [d0], n ≤ reachBytes := by
    intro n hn
    have := List.all_eq_true.1 hsz n hn
    simpa using this
  have z_s : d0.weights Tryz.prog 9 = d0.weights Tryz.prog 9 := rfl
  obtain ⟨s, rfl, hd_s, hp_s, s_s⟩ := open_string Tryz.underlying9 (hval 0 9 v0 rfl rfl) h0
  have b_s : s.size ≤ 140737488351232 := str_bound (d := d0) hd_s (fun n hn => hw n (DataW.weights_mem_each (j := 0) (t := 9) rfl rfl n hn))
  have hlt := hW'.lt
  simp only [List.append_nil] at hW' hlt
  refine (syntaxSpec_any s W HL b_s).mono fun e W' ⟨he, hb⟩ => ?_
  subst he
  refine ⟨_, rfl, _, _, _, [], p0 ++ [], [], hW', trodAll_mk1 (shut_bool Tryz.underlying4 _), ?_, rfl, hb.frame _, fun h => by cases h⟩
  exact trodAll_cons_mk (hb.trod seat_laidOut (by kernel_rfl) (of_decide_eq_true (by kernel_rfl)) h0 (fun x hx => hlt x (by simp [hx]))) trodAll_mk0

theorem syntaxSpec_row : Rows.SyntaxSpecSaid :=
  OpenClaim.holds_of_wide 3 Tryz.f3 rfl rfl rfl rfl rfl rfl rfl ⟨rfl, rfl, rfl, rfl, rfl⟩ rfl rfl rfl rfl rfl (by kernel_rfl) Tryz.func3 (by kernel_rfl)
    (of_decide_eq_true (by kernel_rfl)) (by unfold Func.isWrapper; first | (rw [if_pos (by decide +kernel)]; kernel_rfl) | (rw [if_neg (by decide +kernel)]; exact ⟨rfl, rfl⟩))
    (fun os started H enc _ => syntaxSpec_lifted os started H enc)

theorem syntaxSpec_holds : Rows.SyntaxSpecCardSaid :=
  Claim7.holds_tied_plain_at .later [] [.data, .data, .data, .sentinel, .sentinel] true (true, "c4cbd6692179a2e09c7fd0ab04f7281558dc4827acab079e7c10e7f41c04d4a5") true
    syntaxSpec_row (fun _ h => by cases h) (by kernel_rfl) (fun _ h => by cases h) syntaxSpec_row_tie rfl ⟨rfl, rfl⟩ (by kernel_rfl) rfl
    (fun f fn hf hfn => by
      obtain rfl : f = 3 := Option.some.inj ((show Tryz.prog.funcNamed Rows.syntaxSpecRow.func = some 3 by kernel_rfl).symm.trans hf) |>.symm
      obtain rfl : fn = Tryz.f3 := (Option.some.inj (Tryz.func3.symm.trans hfn)).symm
      exact ⟨by kernel_rfl, fun j t ht => by
        rw [Tryz.params3] at ht
        have hm : t ∈ [9] := by simpa using Array.mem_of_getElem? ht
        have hall : ([9].all fun u => !Tryz.prog.wantsStandIn u) = true := by kernel_rfl
        exact (show Tryz.prog.wantsStandIn t = false by simpa using List.all_eq_true.1 hall t hm)⟩)
    (by kernel_rfl)

end Go.Proofs.YtfnmidddgjlipaaGreatDoor
