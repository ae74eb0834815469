/-
  SyntaxPrintSpec holds, and its card: for all arguments the law returns true, and the arguments read as before.
  Conditions: what the row lists of package-level variables; the card ties that to the program's text.
-/
import Derived.Test.YtfnmidddgjlipaaGreatDoorLx4
import Derived.Test.YtfnmidddgjlipaaGreatDoorLx15
import Derived.Laws.IdiomStrings
import Derived.Lib.SmallJoins
import Derived.Test.YtfnmidddgjlipaaGreatDoorZM
import Derived.Test.YtfnmidddgjlipaaGreatDoorLx13
import Derived.Test.YtfnmidddgjlipaaGreatDoorY15
import Derived.Test.YtfnmidddgjlipaaGreatDoorY17
import Derived.Test.YtfnmidddgjlipaaGreatDoorY19
import Derived.Test.YtfnmidddgjlipaaGreatDoorY13
import Derived.Test.YtfnmidddgjlipaaGreatDoorY21
import Derived.Test.YtfnmidddgjlipaaGreatDoorLd
import Derived.Test.YtfnmidddgjlipaaGreatDoorY2
import Derived.ProofKit
import Derived.SizedLaws
import Derived.Deep.Slices
import Derived.Deep.Strs
import Derived.Test.YtfnmidddgjlipaaGreatDoorCards
import Derived.Test.YtfnmidddgjlipaaGreatDoorTie
import Derived.SevenTiedAt
/-
  Layer 3: frankingref03: Letter, Figure, part, Space, Sign, Name.
-/
set_option linter.unusedVariables false
set_option linter.unusedSimpArgs false
namespace Go.Proofs.YtfnmidddgjlipaaGreatDoor
open Go.RowKit

set_option maxHeartbeats 1000000 in
set_option maxRecDepth 100000 in
theorem rletter_any (c : UInt8) (w : World) : Calls Tryz.prog 40 #[.int .u8 (c.toNat : Int)] w fun e w' => e = .returned (.bool (isLet c)) ∧ w' = w := by
  have h255 : (c.toNat : Int) < 256 := by have := c.toNat_lt; omega
  by_cases a1 : (97 : Int) ≤ (c.toNat : Int) <;> by_cases a2 : (c.toNat : Int) ≤ (122 : Int) <;> by_cases a3 : (65 : Int) ≤ (c.toNat : Int) <;> by_cases a4 : (c.toNat : Int) ≤ (90 : Int)
  all_goals
    first
    | (exfalso; omega)
    | (go_enter Tryz.func40, Tryz.ntmps40
       go_wp2
       go_ret
       refine ⟨ret_bool' ?_, rfl⟩
       unfold isLet
       simp
       omega)

set_option maxHeartbeats 1000000 in
set_option maxRecDepth 100000 in
theorem rfigure_any (c : UInt8) (w : World) : Calls Tryz.prog 43 #[.int .u8 (c.toNat : Int)] w fun e w' => e = .returned (.bool (isDig c)) ∧ w' = w := by
  have h255 : (c.toNat : Int) < 256 := by have := c.toNat_lt; omega
  by_cases a1 : (48 : Int) ≤ (c.toNat : Int) <;> by_cases a2 : (c.toNat : Int) ≤ (57 : Int)
  all_goals
    first
    | (exfalso; omega)
    | (go_enter Tryz.func43, Tryz.ntmps43
       go_wp2
       go_ret
       refine ⟨ret_bool' ?_, rfl⟩
       unfold isDig
       simp
       omega)

set_option maxHeartbeats 1000000 in
set_option maxRecDepth 100000 in
theorem rspace_any (c : UInt8) (w : World) : Calls Tryz.prog 39 #[.int .u8 (c.toNat : Int)] w fun e w' => e = .returned (.bool (isSpc c)) ∧ w' = w := by
  have h255 : (c.toNat : Int) < 256 := by have := c.toNat_lt; omega
  by_cases a1 : (c.toNat : Int) = 32
  · go_enter Tryz.func39, Tryz.ntmps39
    go_wp2
    go_ret
    refine ⟨ret_bool' ?_, rfl⟩
    unfold isSpc
    simp
    omega
  · by_cases a2 : (c.toNat : Int) = 9
    · go_enter Tryz.func39, Tryz.ntmps39
      go_wp2
      go_ret
      refine ⟨ret_bool' ?_, rfl⟩
      unfold isSpc
      simp
      omega
    · by_cases a3 : (c.toNat : Int) = 10
      · go_enter Tryz.func39, Tryz.ntmps39
        go_wp2
        go_ret
        refine ⟨ret_bool' ?_, rfl⟩
        unfold isSpc
        simp
        omega
      · by_cases a4 : (c.toNat : Int) = 13
        · have HS : Hid (isSpc c = true) := Lib.hid (by unfold isSpc; simp; omega)
          go_enter Tryz.func39, Tryz.ntmps39
          go_wp2
          go_ret
          exact ⟨ret_bool' HS.out, rfl⟩
        · have HS : Hid (isSpc c = false) := Lib.hid (by unfold isSpc; simp; omega)
          go_enter Tryz.func39, Tryz.ntmps39
          go_wp2
          go_ret
          exact ⟨ret_bool' (HS.out.trans (by rw [beq_false_of_ne a1, beq_false_of_ne a2, beq_false_of_ne a3, beq_false_of_ne a4]; rfl)), rfl⟩

set_option maxHeartbeats 4000000 in
set_option maxRecDepth 100000 in
theorem rpart_any (c : UInt8) (w : World) : Calls Tryz.prog 41 #[.int .u8 (c.toNat : Int)] w fun e w' => e = .returned (.bool (isPart c)) ∧ w' = w := by
  have h255 : (c.toNat : Int) < 256 := by have := c.toNat_lt; omega
  have HP : Hid (isPart c = (isLet c || isDig c || decide (c.toNat = 95))) := Lib.hid rfl
  cases h1 : isLet c with
  | true =>
    have HQ : Hid (isPart c = true) := Lib.hid (by rw [HP.out, h1]; rfl)
    have H1 := Lib.hid h1
    clear h1
    go_enter Tryz.func41, Tryz.ntmps41
    go_wp2_with fail
    refine (rletter_any c w).mono ?_
    rintro e w1 ⟨rfl, rfl⟩
    rw [H1.out]
    go_wp2
    go_ret
    exact ⟨ret_bool' HQ.out, rfl⟩
  | false =>
    have H1 := Lib.hid h1
    cases h2 : isDig c with
    | true =>
      have HQ : Hid (isPart c = true) := Lib.hid (by rw [HP.out, h1, h2]; rfl)
      have H2 := Lib.hid h2
      clear h1 h2
      go_enter Tryz.func41, Tryz.ntmps41
      go_wp2_with fail
      refine (rletter_any c w).mono ?_
      rintro e w1 ⟨rfl, rfl⟩
      rw [H1.out]
      go_wp2_with fail
      refine (rfigure_any c w1).mono ?_
      rintro e w2 ⟨rfl, rfl⟩
      rw [H2.out]
      go_wp2
      go_ret
      exact ⟨ret_bool' HQ.out, rfl⟩
    | false =>
      have H2 := Lib.hid h2
      have HQ : Hid (isPart c = decide (c.toNat = 95)) := Lib.hid (by rw [HP.out, h1, h2]; rfl)
      clear h1 h2
      go_enter Tryz.func41, Tryz.ntmps41
      go_wp2_with fail
      refine (rletter_any c w).mono ?_
      rintro e w1 ⟨rfl, rfl⟩
      rw [H1.out]
      go_wp2_with fail
      refine (rfigure_any c w1).mono ?_
      rintro e w2 ⟨rfl, rfl⟩
      rw [H2.out]
      by_cases a1 : (c.toNat : Int) = 95
      · go_wp2
        go_ret
        exact ⟨ret_bool' (HQ.out.trans (by simp; omega)), rfl⟩
      · go_wp2
        go_ret
        exact ⟨ret_bool' (HQ.out.trans (by rw [beq_false_of_ne a1]; exact decide_eq_false (by omega))), rfl⟩

set_option maxHeartbeats 1000000 in
set_option maxRecDepth 100000 in
theorem rsign_any (c : UInt8) (w : World) : Calls Tryz.prog 45 #[.int .u8 (c.toNat : Int)] w fun e w' => e = .returned (.bool (isSgn c)) ∧ w' = w := by
  have h255 : (c.toNat : Int) < 256 := by have := c.toNat_lt; omega
  go_enter Tryz.func45, Tryz.ntmps45
  go_wp2
  obtain ⟨sg, hsg⟩ : ∃ sg, (⟨#[123, 125, 40, 41, 59, 44, 61, 58, 46, 60, 62, 33, 43, 45, 42, 47]⟩ : ByteArray) = sg := ⟨_, rfl⟩
  have HD : Hid (sg.data.toList = signL) := Lib.hid (by rw [← hsg]; rfl)
  have hsz : sg.size = 16 := by rw [← hsg]; rfl
  have HG := Lib.hid (fun k (hk : k < sg.size) => data_get hk)
  rw [hsg]
  clear hsg
  go_loop [4] (fun i => ∃ k : Nat, k ≤ 16 ∧ i = .int .i64 k ∧ ∀ j, j < k → signL[j]? ≠ some c) (fun i => 16 - (intOf i).toNat)
  case atStart => exact ⟨0, Nat.zero_le _, rfl, fun j hj => by omega⟩
  case round =>
    obtain ⟨k, hk, rfl, hall⟩ := hrel
    have HA := Lib.hid hall
    clear hall
    by_cases hlt : k < 16
    · have hlt2 : k < sg.size := by omega
      have HK := Lib.hid (HG.out k hlt2)
      by_cases he : sg[k] = c
      · have HS : Hid (isSgn c = true) := Lib.hid (by
          unfold isSgn
          rw [List.contains_iff_mem]
          rw [HD.out, he] at HK
          exact List.mem_of_getElem? HK.out)
        have he2 : ((sg[k].toNat : Int)) = (c.toNat : Int) := by rw [he]
        clear he
        go_wp2
        go_ret
        exact ⟨ret_bool' HS.out, rfl⟩
      · have he2 : ¬ ((sg[k].toNat : Int)) = (c.toNat : Int) := fun h => he (UInt8.toNat_inj.1 (by omega))
        have HE := Lib.hid he
        clear he
        go_wp2
        go_round
        case rel =>
          refine ⟨k + 1, by omega, by go_num, fun j hj hd => ?_⟩
          by_cases hjk : j < k
          · exact HA.out j hjk hd
          · obtain rfl : j = k := by omega
            have := HK.out
            rw [HD.out, hd] at this
            exact HE.out (Option.some.inj this).symm
        case measure => simp [intOf]; omega
    · obtain rfl : k = 16 := by omega
      have HS : Hid (isSgn c = false) := Lib.hid (by
        unfold isSgn
        rw [Bool.eq_false_iff]
        intro h
        obtain ⟨i, hi, hh⟩ := List.mem_iff_getElem.1 (List.contains_iff_mem.1 h)
        exact HA.out i hi (by rw [List.getElem?_eq_getElem hi, hh]))
      go_wp2
      go_ret
      exact ⟨ret_bool' HS.out, rfl⟩

set_option maxHeartbeats 1000000 in
set_option maxRecDepth 100000 in
theorem rname_any (s : ByteArray) (w : World) (hs : s.size ≤ 9223372036854775806) : Calls Tryz.prog 42 #[.string s] w fun e w' => e = .returned (.bool (nameB s.data.toList)) ∧ w' = w := by
  by_cases h0 : s.size = 0
  · obtain rfl := str_zero h0
    clear h0 hs
    go_enter Tryz.func42, Tryz.ntmps42
    go_wp2
    go_ret
    exact ⟨rfl, rfl⟩
  · have h1 : (1 : Int) ≤ (s.size : Int) := by omega
    by_cases h32 : 32 < s.size
    · have HB := Lib.hid (nameB_big (l := s.data.toList) (by rw [size_data]; exact h32))
      have h33 : (32 : Int) < (s.size : Int) := by omega
      go_enter Tryz.func42, Tryz.ntmps42
      go_wp2
      go_ret
      exact ⟨ret_bool' HB.out, rfl⟩
    · have hpos : 0 < s.size := by omega
      have h33 : (s.size : Int) ≤ 32 := by omega
      have HG := Lib.hid (fun k (hk : k < s.size) => data_get hk)
      go_enter Tryz.func42, Tryz.ntmps42
      go_wp2_with fail
      refine (rletter_any s[0] w).mono ?_
      rintro e w1 ⟨rfl, rfl⟩
      cases hc : isLet s[0] with
      | false =>
        have HB := Lib.hid (nameB_first (HG.out 0 hpos) hc)
        clear hc
        go_wp2
        go_ret
        exact ⟨ret_bool' HB.out, rfl⟩
      | true =>
        have HC := Lib.hid hc
        clear hc
        go_wp2
        go_loop [3] (fun i => ∃ k : Nat, k ≤ s.size ∧ i = .int .i64 k ∧ ∀ j, j < k → ∀ d, s.data.toList[j]? = some d → isPart d = true) (fun i => s.size - (intOf i).toNat)
        case atStart => exact ⟨0, Nat.zero_le _, rfl, fun j hj => by omega⟩
        case round =>
          obtain ⟨k, hk, rfl, hall⟩ := hrel
          have HA := Lib.hid hall
          clear hall
          by_cases hlt : k < s.size
          · go_wp2_with fail
            refine (rpart_any s[k] w1).mono ?_
            rintro e w2 ⟨rfl, rfl⟩
            cases f : isPart s[k] with
            | true =>
              have HF := Lib.hid f
              clear f
              go_wp2
              go_round
              case rel =>
                refine ⟨k + 1, by omega, by go_num, fun j hj d hd => ?_⟩
                by_cases hjk : j < k
                · exact HA.out j hjk d hd
                · obtain rfl : j = k := by omega
                  rw [HG.out j hlt] at hd
                  cases hd
                  exact HF.out
              case measure => simp [intOf]; omega
            | false =>
              have HB := Lib.hid (nameB_bad (HG.out k hlt) f)
              clear f
              go_wp2
              go_ret
              exact ⟨ret_bool' HB.out, rfl⟩
          · have HB := Lib.hid (nameB_ok (HG.out 0 hpos) HC.out (by rw [size_data]; omega) (fun j hj d hd => HA.out j (by rw [size_data] at hj; omega) d hd))
            go_wp2
            go_ret
            exact ⟨ret_bool' HB.out, rfl⟩
end Go.Proofs.YtfnmidddgjlipaaGreatDoor

/-
  Layer 3: frankingref03: Valid, Decimal.
-/
set_option linter.unusedVariables false
set_option linter.unusedSimpArgs false
namespace Go.Proofs.YtfnmidddgjlipaaGreatDoor
open Go.RowKit

set_option maxHeartbeats 1000000 in
set_option maxRecDepth 100000 in
theorem rvalid_any (t : Tok) (w : World) (ht : okT t) : Calls Tryz.prog 55 #[tokV t] w fun e w' => e = .returned (.bool (validB t)) ∧ Below w.heap.size w w' := by
  obtain ⟨k, x, n, p⟩ := t
  obtain ⟨⟨k1, k2⟩, hx, ⟨n1, n2⟩, ⟨p1, p2⟩⟩ := ht
  simp only at k1 k2 hx n1 n2 p1 p2
  have hsz := len_mk x
  have HSZ := Lib.hid hsz
  have HBX := Lib.hid (box_below' w (.cells #[.int .i64 k, strV x, .int .i64 n, .int .i64 p] 72))
  have hlt : x.length ≤ 9223372036854775806 := by omega
  clear hsz
  unfold strV at *
  by_cases hk1 : k = 1
  · subst hk1
    cases hb : nameB x
    · have HV : Hid (validB ⟨1, x, n, p⟩ = false) := Lib.hid (by simp [validB, hb])
      go_enter Tryz.func55, Tryz.ntmps55
      go_wp2_with (go_at_call 42; refine (rname_any _ _ ?_).mono ?_; (rw [HSZ.out]; exact hlt); rintro e w' ⟨rfl, rfl⟩)
      go_ret
      exact ⟨ret_bool' HV.out, HBX.out⟩
    · by_cases hn : n = 0
      · subst hn
        have HV : Hid (validB ⟨1, x, 0, p⟩ = true) := Lib.hid (by simp [validB, hb])
        go_enter Tryz.func55, Tryz.ntmps55
        go_wp2_with (go_at_call 42; refine (rname_any _ _ ?_).mono ?_; (rw [HSZ.out]; exact hlt); rintro e w' ⟨rfl, rfl⟩)
        go_ret
        exact ⟨ret_bool' HV.out, HBX.out⟩
      · have hn' : (n == 0) = false := by simpa using hn
        have HV : Hid (validB ⟨1, x, n, p⟩ = false) := Lib.hid (by simp [validB, hb, hn])
        clear hn
        go_enter Tryz.func55, Tryz.ntmps55
        go_wp2_with (go_at_call 42; refine (rname_any _ _ ?_).mono ?_; (rw [HSZ.out]; exact hlt); rintro e w' ⟨rfl, rfl⟩)
        go_ret
        exact ⟨ret_bool' HV.out, HBX.out⟩
  · have hk1' : (k == 1) = false := by simpa using hk1
    by_cases hk2 : k = 2
    · subst hk2
      clear hk1 hk1'
      by_cases hx0 : x = []
      · subst hx0
        by_cases hn0 : 0 ≤ n
        · by_cases hn1 : n ≤ 1099511627776
          · have HV : Hid (validB ⟨2, [], n, p⟩ = true) := Lib.hid (by simp [validB, hn0, hn1])
            go_enter Tryz.func55, Tryz.ntmps55
            go_wp2
            go_ret
            exact ⟨ret_bool' HV.out, HBX.out⟩
          · have HV : Hid (validB ⟨2, [], n, p⟩ = false) := Lib.hid (by simp [validB]; omega)
            go_enter Tryz.func55, Tryz.ntmps55
            go_wp2
            go_ret
            exact ⟨ret_bool' HV.out, HBX.out⟩
        · have HV : Hid (validB ⟨2, [], n, p⟩ = false) := Lib.hid (by simp [validB]; omega)
          go_enter Tryz.func55, Tryz.ntmps55
          go_wp2
          go_ret
          exact ⟨ret_bool' HV.out, HBX.out⟩
      · have HV : Hid (validB ⟨2, x, n, p⟩ = false) := Lib.hid (by simp [validB, hx0])
        obtain ⟨hE1, hE2⟩ := str_ne (s := ⟨x.toArray⟩) (by rw [HSZ.out]; exact List.length_pos_iff.2 hx0)
        go_enter Tryz.func55, Tryz.ntmps55
        go_wp2
        go_ret
        exact ⟨ret_bool' HV.out, HBX.out⟩
    · have hk2' : (k == 2) = false := by simpa using hk2
      by_cases hk3 : k = 3
      · subst hk3
        clear hk1 hk2 hk1' hk2'
        by_cases hl : x.length = 1
        · obtain ⟨c, rfl⟩ := List.length_eq_one_iff.1 hl
          clear hl
          cases h5 : isSgn c
          · have HV : Hid (validB ⟨3, [c], n, p⟩ = false) := Lib.hid (by simp [validB, h5])
            have h5' := h5
            go_enter Tryz.func55, Tryz.ntmps55
            go_wp2_with (go_at_call 45; refine (rsign_any c _).mono ?_; rintro e w' ⟨rfl, rfl⟩)
            go_ret
            exact ⟨ret_bool' HV.out, HBX.out⟩
          · by_cases hn : n = 0
            · subst hn
              have HV : Hid (validB ⟨3, [c], 0, p⟩ = true) := Lib.hid (by simp [validB, h5])
              go_enter Tryz.func55, Tryz.ntmps55
              go_wp2_with (go_at_call 45; refine (rsign_any c _).mono ?_; rintro e w' ⟨rfl, rfl⟩)
              go_ret
              exact ⟨ret_bool' HV.out, HBX.out⟩
            · have HV : Hid (validB ⟨3, [c], n, p⟩ = false) := Lib.hid (by simp [validB, hn])
              have hn' : (n == 0) = false := by simpa using hn
              clear hn
              go_enter Tryz.func55, Tryz.ntmps55
              go_wp2_with (go_at_call 45; refine (rsign_any c _).mono ?_; rintro e w' ⟨rfl, rfl⟩)
              go_ret
              exact ⟨ret_bool' HV.out, HBX.out⟩
        · have HV : Hid (validB ⟨3, x, n, p⟩ = false) := Lib.hid (by
            match x, hl with
            | [], _ => rfl
            | a :: b :: r, _ => rfl)
          have hl1 : ((x.length : Int) == 1) = false := by simp; omega
          have hl2 : (((⟨x.toArray⟩ : ByteArray).size : Int) == 1) = false := by rw [HSZ.out]; exact hl1
          clear hl
          go_enter Tryz.func55, Tryz.ntmps55
          go_wp2
          go_ret
          exact ⟨ret_bool' HV.out, HBX.out⟩
      · have HV : Hid (validB ⟨k, x, n, p⟩ = false) := Lib.hid (by simp [validB, hk1, hk2, hk3])
        have hk3' : (k == 3) = false := by simpa using hk3
        clear hk1 hk2 hk3
        go_enter Tryz.func55, Tryz.ntmps55
        go_wp2
        go_ret
        exact ⟨ret_bool' HV.out, HBX.out⟩

/-- string([]byte{d}) -/
theorem wpList_byte_str {ops : Array Oper} {rest : List Oper} {o : Oper} {a : Act} {w : World} {Q : Exit → Act → World → Prop} (hgd : o.guard = none) (x : Operand) (hop : o.op = Op.convert 113 9 x)
    {ad : Addr} {c : Nat} {u : UInt8} (hx : a.eval x = .slice (some ad) 1 c) {z : Int} (hz : z = (u.toNat : Int)) (hc : w.cell? ad = some (.int .u8 z))
    (h : wpList Tryz.prog ops Q rest (a.put o.dst (strV [u])) w) : wpList Tryz.prog ops Q (o :: rest) a w := by
  subst hz
  refine wpList_plain hgd fun K hK => ?_
  have hadd : ad.add 0 = ad := by unfold Addr.add; split <;> simp_all
  have hr := run_convert_bytes_back (P := Tryz.prog) w 113 9 5 ad c [u] Tryz.underlying113 Tryz.underlying5 Tryz.underlying9 (fun j hj => by
    obtain rfl : j = 0 := by simpa using hj
    rw [hadd, hc]
    rfl)
  unfold Oper.wp
  simp only [execOp, hop, hx]
  simp only [List.length_cons, List.length_nil, Nat.zero_add] at hr
  simp [hr, Result.andThen]
  exact hK _ _ h

theorem strV_app (a b : List UInt8) : strV (a ++ b) = .string ((⟨a.toArray⟩ : ByteArray) ++ (⟨b.toArray⟩ : ByteArray)) := by
  have : (⟨(a ++ b).toArray⟩ : ByteArray) = (⟨a.toArray⟩ : ByteArray) ++ (⟨b.toArray⟩ : ByteArray) := by
    apply ByteArray.ext
    rw [ByteArray.data_append]
    simp
  unfold strV
  rw [this]

def digB (d : Nat) : UInt8 := UInt8.ofNat (48 + d)
theorem digB_val {d : Nat} (h : d < 10) : (digB d).toNat = 48 + d := (dig_of h).2
def decTail (N m : Nat) (l : List UInt8) : Prop := if m < 10 then Go.Lib.decDigits N = l else Go.Lib.decDigits N = Go.Lib.decDigits (m / 10) ++ l
theorem decTail_start (N : Nat) : decTail N N [digB (N % 10)] := by
  unfold decTail digB
  rw [Go.Lib.decDigits]
  by_cases h : N < 10
  · rw [if_pos h, dif_pos h, Nat.mod_eq_of_lt h]
  · rw [if_neg h, dif_neg h]
theorem decTail_step {N m : Nat} {l : List UInt8} (h : decTail N m l) (hm : 10 ≤ m) : decTail N (m / 10) (digB (m / 10 % 10) :: l) := by
  unfold decTail digB at *
  rw [if_neg (by omega)] at h
  by_cases h2 : m / 10 < 10
  · have e : Go.Lib.decDigits (m / 10) = [UInt8.ofNat (48 + m / 10)] := by rw [Go.Lib.decDigits, dif_pos h2]
    rw [e] at h
    rw [if_pos h2, h, Nat.mod_eq_of_lt h2]
    rfl
  · have e : Go.Lib.decDigits (m / 10) = Go.Lib.decDigits (m / 10 / 10) ++ [UInt8.ofNat (48 + m / 10 % 10)] := by rw [Go.Lib.decDigits, dif_neg h2]
    rw [e] at h
    rw [if_neg h2, h]
    simp
theorem decTail_len {N m : Nat} {l : List UInt8} (h : decTail N m l) : l.length ≤ (Go.Lib.decDigits N).length := by
  unfold decTail at h
  split at h <;> rw [h] <;> simp

set_option maxHeartbeats 2000000 in
set_option maxRecDepth 100000 in
theorem decimal_any (N : Nat) (w : World) (hN : N ≤ 1099511627776) : Calls Tryz.prog 56 #[.int .i64 (N : Int)] w fun e w' => e = .returned (strV (Go.Lib.decDigits N)) ∧ Below w.heap.size w w' := by
  have hrem : (N : Int).tmod 10 = ((N % 10 : Nat) : Int) := by rw [Int.tmod_eq_emod_of_nonneg (by omega)]; omega
  have hr10 : N % 10 < 10 := by omega
  have HDL := Lib.hid (dec_len 12 N (by omega))
  go_enter Tryz.func56, Tryz.ntmps56
  go_wp2_with (refine wpList_byte_str rfl (.tmp 8) rfl (u := digB (N % 10)) rfl (z := 48 + (N : Int) % 10) (by rw [digB_val hr10]; omega) (World.cell?_alloc_at _ _ _ _ rfl) ?_)
  go_loopw [0, 3] (fun nv sv wr => ∃ (m : Nat) (l : List UInt8), nv = .int .i64 m ∧ sv = strV l ∧ decTail N m l ∧ m ≤ N ∧ Below w.heap.size w wr) (fun nv sv _ => (intOf nv).toNat)
  case atStart => exact ⟨N, _, rfl, rfl, decTail_start N, Nat.le_refl _, (Below.refl _ _).alloc (Nat.le_refl _) _⟩
  case round =>
    obtain ⟨m, l, rfl, hse, hdt, hm, hbr⟩ := hrel
    have HDT := Lib.hid hdt
    have HBR := Lib.hid hbr
    have hzr := hbr.size
    obtain ⟨sx, hsx⟩ : ∃ sx : ByteArray, (⟨l.toArray⟩ : ByteArray) = sx := ⟨_, rfl⟩
    have HSX := Lib.hid hsx
    have hxs : sx.size ≤ 13 := by rw [← hsx, len_mk]; exact Nat.le_trans (decTail_len hdt) HDL.out
    rw [show strV l = .string sx from by rw [← hsx]] at hse
    subst hse
    clear hsx hdt hbr
    by_cases h10 : 10 ≤ m
    · have HD2 := Lib.hid (decTail_step HDT.out h10)
      have hq : (m : Int).tdiv 10 = ((m / 10 : Nat) : Int) := by rw [Int.tdiv_eq_ediv_of_nonneg (by omega)]; omega
      have h10' : (10 : Int) ≤ (m : Int) := by omega
      have hm2 : (m : Int) ≤ 1099511627776 := by omega
      have h1s : (⟨#[digB (m / 10 % 10)]⟩ : ByteArray).size = 1 := rfl
      have HCAT : Hid (strV (digB (m / 10 % 10) :: l) = .string ((⟨#[digB (m / 10 % 10)]⟩ : ByteArray) ++ sx)) := Lib.hid (by
        have : digB (m / 10 % 10) :: l = [digB (m / 10 % 10)] ++ l := rfl
        rw [this, strV_app, HSX.out])
      go_wp2_with (refine wpList_byte_str rfl (.tmp 18) rfl (u := digB (m / 10 % 10)) rfl (z := 48 + (m : Int) / 10 % 10) (by rw [digB_val (by omega)]; omega) (World.cell?_alloc_at _ _ _ _ rfl) ?_)
      go_roundw
      case rel => exact ⟨m / 10, _, by go_num, HCAT.out.symm, HD2.out, by omega, HBR.out.alloc hzr _⟩
      case measure => simp [intOf]; omega
    · have HE : Hid (Go.Lib.decDigits N = l) := Lib.hid (by have := HDT.out; unfold decTail at this; rwa [if_pos (by omega)] at this)
      have h10' : (m : Int) < 10 := by omega
      go_wp2
      go_ret
      exact ⟨by rw [HE.out]; show Ending.returned (Value.string sx) = Ending.returned (Value.string ⟨l.toArray⟩); rw [HSX.out], HBR.out⟩
end Go.Proofs.YtfnmidddgjlipaaGreatDoor

/-
  Layer 3: the walk of frankingref03.Text.
-/
set_option linter.unusedVariables false
set_option linter.unusedSimpArgs false
namespace Go.Proofs.YtfnmidddgjlipaaGreatDoor
open Go.RowKit

theorem joinW_snoc : ∀ (l : List (List UInt8)) (x : List UInt8), l ≠ [] → joinW (l ++ [x]) = joinW l ++ 32 :: x
  | [], x, h => absurd rfl h
  | [y], x, _ => by simp [joinW]
  | y :: z :: r, x, _ => by
    have ih := joinW_snoc (z :: r) x (by simp)
    simp only [List.cons_append, joinW] at ih ⊢
    rw [ih]
    simp
def headW (ts : List Tok) (k : Nat) : List UInt8 := joinW ((ts.take k).map txt)
theorem headW_succ {ts : List Tok} {k : Nat} (h : k < ts.length) (h0 : 0 < k) : headW ts (k + 1) = headW ts k ++ [32] ++ txt (tokAt ts k) := by
  unfold headW
  rw [List.take_succ_eq_append_getElem h, List.map_append, tokAt_get h]
  simp only [List.map_cons, List.map_nil]
  rw [joinW_snoc _ _ (by intro e; have h2 := congrArg List.length e; rw [List.length_map, List.length_take] at h2; simp only [List.length_nil] at h2; omega)]
  simp
theorem headW_one {ts : List Tok} (h : 0 < ts.length) : headW ts 1 = txt (tokAt ts 0) := by
  unfold headW
  rw [show (1 : Nat) = 0 + 1 from rfl, List.take_succ_eq_append_getElem h, tokAt_get h]
  simp [joinW]
theorem headW_len {ts : List Tok} {k : Nat} (hv : ∀ j, j < k → validB (tokAt ts j) = true) (hk : k ≤ ts.length) (hn : ts.length ≤ 100000) (hx : ∀ t ∈ ts, t.text.length ≤ 100000) : (headW ts k).length ≤ 20000000000 := by
  have := joinW_len (m := 100000) ((ts.take k).map txt) (fun x hx2 => by
    obtain ⟨t, ht, rfl⟩ := List.mem_map.1 hx2
    obtain ⟨j, hj, rfl⟩ := List.getElem_of_mem ht
    simp only [List.length_take] at hj
    have h1 := hv j (by omega)
    rw [tokAt_get (by omega)] at h1
    rw [List.getElem_take]
    exact txt_len h1 (hx _ (List.getElem_mem _)))
  rw [List.length_map, List.length_take] at this
  unfold headW
  have h2 : min k ts.length * (100000 + 1) ≤ 100000 * (100000 + 1) := Nat.mul_le_mul_right _ (by omega)
  omega
set_option maxHeartbeats 4000000 in
set_option maxRecDepth 100000 in
theorem rtext_any (B : Nat) (w : World) (v : Value) (ts : List Tok) (hB : B ≤ w.heap.size) (hv : IsToks B w v ts) (hn : ts.length ≤ 100000) (hx : ∀ t ∈ ts, t.text.length ≤ 100000) :
    Calls Tryz.prog 21 #[v] w fun e w' => e = .returned (.tuple #[strV (textL ts), .int .i64 (textE ts)]) ∧ Below w.heap.size w w' := by
  obtain ⟨a, c, rfl, hc1, hc2, hc3⟩ := hv.form
  have HV := Lib.hid hv
  have HX := Lib.hid hx
  clear hv hx
  go_enter Tryz.func21, Tryz.ntmps21
  go_wp2
  go_loopw [4, 5] (fun x i wr => ∃ k : Nat, k ≤ ts.length ∧ i = .int .i64 k ∧ x = strV (headW ts k) ∧ (∀ j, j < k → validB (tokAt ts j) = true) ∧ Below w.heap.size w wr) (fun x i _ => ts.length - (intOf i).toNat)
  case atStart => exact ⟨0, by omega, rfl, rfl, fun j hj => by omega, Below.refl _ _⟩
  case round =>
    obtain ⟨k, hk, rfl, hxe, hall, hbr⟩ := hrel
    obtain ⟨sx, hsx⟩ : ∃ sx : ByteArray, (⟨(headW ts k).toArray⟩ : ByteArray) = sx := ⟨_, rfl⟩
    have HSX := Lib.hid hsx
    have hse : strV (headW ts k) = .string sx := by rw [← hsx]
    have HXE := Lib.hid hse
    rw [hse] at hxe
    subst hxe
    clear hsx hse
    have HA := Lib.hid hall
    have HBR := Lib.hid hbr
    clear hall hbr
    have hzr := HBR.out.size
    by_cases hlt : k < ts.length
    · obtain ⟨b, off, rfl, bb, g0, g1, g2, g3⟩ := (HV.out.below HBR.out hB).cells hlt
      have HOK := Lib.hid (HV.out.ok hlt)
      go_wp2_with fail
      refine (rvalid_any (tokAt ts k) wr HOK.out).mono ?_
      rintro e w7 ⟨rfl, hb⟩
      have HB7 : Hid (Below w.heap.size w w7) := Lib.hid (HBR.out.trans (hb.mono (by omega)))
      have hz7 := HB7.out.size
      clear hb g0 g1 g2 g3
      obtain ⟨b', off', he, bb', g0, g1, g2, g3⟩ := (HV.out.below HB7.out hB).cells hlt
      obtain ⟨rfl, rfl⟩ : b = b' ∧ off = off' := by injection he with he; injection he with h1 h2; exact ⟨h1, h2⟩
      clear he bb'
      cases hvb : validB (tokAt ts k) with
      | false =>
        have HT : Hid (textL ts = [] ∧ textE ts = 30) := Lib.hid (by unfold textL textE; rw [not_all hlt hvb]; exact ⟨rfl, rfl⟩)
        clear hvb
        go_wp2
        go_ret2
        exact ⟨by rw [HT.out.1, HT.out.2]; rfl, HB7.out⟩
      | true =>
        have HVB := Lib.hid hvb
        have HA2 : Hid (∀ j, j < k + 1 → validB (tokAt ts j) = true) := Lib.hid (fun j hj => by
          by_cases h : j < k
          · exact HA.out j h
          · obtain rfl : j = k := by omega
            exact HVB.out)
        clear hvb
        have hxs : sx.size ≤ 20000000000 := by rw [← HSX.out, len_mk]; exact headW_len HA.out hk hn HX.out
        obtain ⟨tx, htx⟩ : ∃ tx : ByteArray, (⟨(txt (tokAt ts k)).toArray⟩ : ByteArray) = tx := ⟨_, rfl⟩
        have hts : tx.size ≤ 100000 := by rw [← htx, len_mk]; exact txt_len HVB.out (HX.out _ (by rw [tokAt_get hlt]; exact List.getElem_mem _))
        have HTX := Lib.hid htx
        clear htx
        have h32 : (⟨#[32]⟩ : ByteArray).size = 1 := rfl
        have HNEXT : Hid (if k = 0 then strV (headW ts (k + 1)) = .string (sx ++ tx) else strV (headW ts (k + 1)) = .string (sx ++ (⟨#[32]⟩ : ByteArray) ++ tx)) := Lib.hid (by
          by_cases h0 : k = 0
          · subst h0
            rw [if_pos rfl, headW_one hlt, ← HTX.out, ← HSX.out]
            show strV (txt (tokAt ts 0)) = .string ((⟨([] : List UInt8).toArray⟩ : ByteArray) ++ ⟨(txt (tokAt ts 0)).toArray⟩)
            rw [← strV_app]
            rfl
          · rw [if_neg h0, headW_succ hlt (by omega), strV_app, ← HTX.out, ← HSX.out]
            have := strV_app (headW ts k) [32]
            unfold strV at this
            injection this with this
            rw [this])
        by_cases hk2 : (tokAt ts k).kind = 2
        · have hk2' : ((tokAt ts k).kind == 2) = true := by simpa using hk2
          obtain ⟨v1, v2, v3⟩ := valid_num HVB.out hk2
          obtain ⟨N, hN⟩ : ∃ N : Nat, (tokAt ts k).n = (N : Int) := ⟨(tokAt ts k).n.toNat, by omega⟩
          have HDX : Hid (strV (Go.Lib.decDigits N) = .string tx) := Lib.hid (by
            rw [← HTX.out]
            unfold strV txt
            rw [hk2', hN, if_pos rfl, itoa_nat (by omega)]
            rfl)
          rw [hN] at g2
          have hN2 : N ≤ 1099511627776 := by omega
          clear hk2 v1 v2 v3 hN g1 g3
          by_cases h0 : k = 0
          · have HNX : Hid (strV (headW ts (k + 1)) = .string (sx ++ tx)) := Lib.hid (by have := HNEXT.out; rw [if_pos h0] at this; exact this)
            have h0' : (k : Int) ≤ 0 := by omega
            clear h0
            go_wp2_with fail
            refine (decimal_any N w7 hN2).mono ?_
            rintro e w8 ⟨rfl, hb⟩
            have HB8 : Hid (Below w.heap.size w w8) := Lib.hid (HB7.out.trans (hb.mono (by omega)))
            rw [HDX.out]
            clear hb g0 g2
            go_wp2
            go_roundw
            case rel => exact ⟨k + 1, by omega, by go_num, HNX.out.symm, HA2.out, HB8.out⟩
            case measure => simp [intOf]; omega
          · have HNX : Hid (strV (headW ts (k + 1)) = .string (sx ++ (⟨#[32]⟩ : ByteArray) ++ tx)) := Lib.hid (by have := HNEXT.out; rw [if_neg h0] at this; exact this)
            have h0' : (0 : Int) < (k : Int) := by omega
            go_wp2_with fail
            refine (decimal_any N w7 hN2).mono ?_
            rintro e w8 ⟨rfl, hb⟩
            have HB8 : Hid (Below w.heap.size w w8) := Lib.hid (HB7.out.trans (hb.mono (by omega)))
            rw [HDX.out]
            clear hb g0 g2
            go_wp2
            go_roundw
            case rel => exact ⟨k + 1, by omega, by go_num, HNX.out.symm, HA2.out, HB8.out⟩
            case measure => simp [intOf]; omega
        · have hk2' : ((tokAt ts k).kind == 2) = false := by simpa using hk2
          have HDX : Hid (strV (tokAt ts k).text = .string tx) := Lib.hid (by
            rw [← HTX.out]
            unfold strV txt
            rw [hk2']
            rfl)
          rw [HDX.out] at g1
          clear hk2 g2 g3
          by_cases h0 : k = 0
          · have HNX : Hid (strV (headW ts (k + 1)) = .string (sx ++ tx)) := Lib.hid (by have := HNEXT.out; rw [if_pos h0] at this; exact this)
            have h0' : (k : Int) ≤ 0 := by omega
            clear h0
            go_wp2
            go_roundw
            case rel => exact ⟨k + 1, by omega, by go_num, HNX.out.symm, HA2.out, HB7.out⟩
            case measure => simp [intOf]; omega
          · have HNX : Hid (strV (headW ts (k + 1)) = .string (sx ++ (⟨#[32]⟩ : ByteArray) ++ tx)) := Lib.hid (by have := HNEXT.out; rw [if_neg h0] at this; exact this)
            have h0' : (0 : Int) < (k : Int) := by omega
            go_wp2
            go_roundw
            case rel => exact ⟨k + 1, by omega, by go_num, HNX.out.symm, HA2.out, HB7.out⟩
            case measure => simp [intOf]; omega
    · obtain rfl : k = ts.length := by omega
      have HALL := Lib.hid (all_valid HA.out)
      have HT : Hid (textL ts = headW ts ts.length ∧ textE ts = 0) := Lib.hid (by unfold textL textE headW; rw [HALL.out, List.take_length]; exact ⟨rfl, rfl⟩)
      go_wp2
      go_ret2
      exact ⟨by rw [HT.out.1, HT.out.2, HXE.out]; rfl, HBR.out⟩
end Go.Proofs.YtfnmidddgjlipaaGreatDoor

/-
  Layer 17: the walk of the specification's printer, first part: put, sign, digits (printed by tools/genz10.py).
-/
set_option linter.unusedVariables false
set_option linter.unusedSimpArgs false
namespace Go.Proofs.YtfnmidddgjlipaaGreatDoor
open Go.RowKit

theorem istoks_src {B : Nat} {w : World} {v : Value} {ts : List Tok} (h : IsToks B w v ts) : Src w 4 v ts.length (flatT ts) := by
  obtain ⟨b, off, cap, ⟨ad, rfl, hcap, hmax, ha⟩, hly, hz, hc⟩ := h
  refine ⟨ad, cap, rfl, flatT_len ts, fun j u hj => ?_, flatT_one ts⟩
  have hlt : j < ts.length * 4 := by
    have := (List.getElem?_eq_some_iff.1 hj).1
    rwa [flatT_len] at this
  obtain rfl : ad = some ⟨b, off, none⟩ := by rcases ha with ha | ha; exact ha; omega
  have e : (⟨b, off, none⟩ : Addr).add j = ⟨b, off + j, none⟩ := by unfold Addr.add; split <;> simp_all
  refine ⟨_, rfl, ?_⟩
  rw [e]
  have hq : j / 4 < ts.length := by omega
  have hg := flatT_get ts (j / 4) hq (j % 4) (by omega)
  rw [show j / 4 * 4 + j % 4 = j by omega, hj] at hg
  obtain ⟨g0, g1, g2, g3⟩ := hc (j / 4) hq
  have h4 : j % 4 = 0 ∨ j % 4 = 1 ∨ j % 4 = 2 ∨ j % 4 = 3 := by omega
  rcases h4 with h | h | h | h <;> rw [h] at hg <;> simp only [tokC, List.getElem?_cons_zero, List.getElem?_cons_succ, Option.some.injEq] at hg <;> subst hg
  · rw [show off + j = off + j / 4 * 4 by omega]; exact g0.2
  · rw [show off + j = off + j / 4 * 4 + 1 by omega]; exact g1.2
  · rw [show off + j = off + j / 4 * 4 + 2 by omega]; exact g2.2
  · rw [show off + j = off + j / 4 * 4 + 3 by omega]; exact g3.2
set_option maxHeartbeats 4000000 in
set_option maxRecDepth 100000 in
theorem zput_any (B : Nat) (w : World) (v : Value) (T : List Tok) (x : ByteArray) (hB : B ≤ w.heap.size) (hv : IsToks B w v T) (hn : T.length ≤ 1000000) (hx : x.size ≤ 140737488351232) :
    Calls Tryz.prog 52 #[v, .string x] w fun e w' => (∃ v', e = .returned v' ∧ OwnToks w.heap.size w' v' (T ++ [nmT x.data.toList])) ∧ Below w.heap.size w w' := by
  have HV := Lib.hid hv
  have hTO : ∀ t ∈ T, okT t := by obtain ⟨_, _, _, _, _, h, _⟩ := hv; exact h
  obtain ⟨a1, c1, rfl, _⟩ := hv.form
  obtain ⟨N, hN⟩ : ∃ N, T.length = N := ⟨_, rfl⟩
  rw [hN] at hn HV ⊢
  have hNT : ∀ t ∈ [nmT x.data.toList], okT t := by
    intro t ht
    obtain rfl := List.mem_singleton.1 ht
    exact ⟨by show I64 1; unfold I64; decide, by show x.data.toList.length ≤ _; rw [size_data]; exact hx, by show I64 0; unfold I64; decide, by show I64 0; unfold I64; decide⟩
  obtain ⟨v5, w5, hrun5, ho5, hg5, _⟩ := run_append_toks (C := w.heap.size) (v := .slice (some ⟨w.heap.size, 0, none⟩) 0 0) (vx := .slice a1 N c1) (xs := []) (ys := T) (ty := 35) (OwnToks.made (w := w) rfl (Nat.le_refl _)) (istoks_src (IsToks.below HV.out (box_below' w (.cells #[] 72)) hB)) hTO (by simp; omega) (by simp)
  have hb5 : Below w.heap.size w w5 := (box_below' w _).grown hg5 (by simp) (fun q e => by have e2 : w.heap.size = q := Option.some.inj e; omega)
  obtain ⟨a5, n5, c5, rfl⟩ := ho5.form'
  obtain ⟨v7, w7, hrun7, ho7, hg7, _⟩ := run_append_toks (C := w.heap.size) (v := .slice a5 n5 c5) (vx := .slice (some ⟨w5.heap.size, 0, none⟩) 1 1) (xs := [] ++ T) (ys := [nmT x.data.toList]) (ty := 35) (OwnToks.alloc ho5 (.cells #[.int .i64 1, .string x, .int .i64 0, .int .i64 0] 72)) (src_tok (World.cell?_alloc_at _ _ _ _ rfl) (World.cell?_alloc_at _ _ _ _ rfl) (World.cell?_alloc_at _ _ _ _ rfl) (World.cell?_alloc_at _ _ _ _ rfl)) hNT (by simp; omega) (by have := hb5.size; simp; omega)
  have HB7 : Hid (Below w.heap.size w w7) := Lib.hid ((hb5.alloc hb5.size _).grown hg7 (by have := hb5.size; simp; omega) (fun q e => (ho5.lt q e).1))
  have HO7 : Hid (OwnToks w.heap.size w7 v7 (T ++ [nmT x.data.toList])) := Lib.hid (by simpa using ho7)
  have HR5 := Lib.hid hrun5
  have HR7 := Lib.hid hrun7
  clear hrun5 ho5 hg5 hb5 hrun7 ho7 hg7 hTO hNT
  go_enter Tryz.func52, Tryz.ntmps52
  go_wp2_with first
    | (at_builtin; refine wpList_yes' rfl (fun K hK => wp_of_append (s := .tmp 5) (x := .tmp 6) _ rfl rfl rfl HR5.out (hK _ _ ?_)))
    | (at_builtin; refine wpList_yes' rfl (fun K hK => wp_of_append (s := .tmp 7) (x := .tmp 10) _ rfl rfl rfl HR7.out (hK _ _ ?_)))
  go_ret
  exact ⟨⟨_, rfl, HO7.out⟩, HB7.out⟩
set_option maxHeartbeats 4000000 in
set_option maxRecDepth 100000 in
theorem zsign_any (B : Nat) (w : World) (v : Value) (T : List Tok) (x : ByteArray) (hB : B ≤ w.heap.size) (hv : IsToks B w v T) (hn : T.length ≤ 1000000) (hx : x.size ≤ 140737488351232) :
    Calls Tryz.prog 54 #[v, .string x] w fun e w' => (∃ v', e = .returned v' ∧ OwnToks w.heap.size w' v' (T ++ [sgT x.data.toList])) ∧ Below w.heap.size w w' := by
  have HV := Lib.hid hv
  have hTO : ∀ t ∈ T, okT t := by obtain ⟨_, _, _, _, _, h, _⟩ := hv; exact h
  obtain ⟨a1, c1, rfl, _⟩ := hv.form
  obtain ⟨N, hN⟩ : ∃ N, T.length = N := ⟨_, rfl⟩
  rw [hN] at hn HV ⊢
  have hNT : ∀ t ∈ [sgT x.data.toList], okT t := by
    intro t ht
    obtain rfl := List.mem_singleton.1 ht
    exact ⟨by show I64 3; unfold I64; decide, by show x.data.toList.length ≤ _; rw [size_data]; exact hx, by show I64 0; unfold I64; decide, by show I64 0; unfold I64; decide⟩
  obtain ⟨v5, w5, hrun5, ho5, hg5, _⟩ := run_append_toks (C := w.heap.size) (v := .slice (some ⟨w.heap.size, 0, none⟩) 0 0) (vx := .slice a1 N c1) (xs := []) (ys := T) (ty := 35) (OwnToks.made (w := w) rfl (Nat.le_refl _)) (istoks_src (IsToks.below HV.out (box_below' w (.cells #[] 72)) hB)) hTO (by simp; omega) (by simp)
  have hb5 : Below w.heap.size w w5 := (box_below' w _).grown hg5 (by simp) (fun q e => by have e2 : w.heap.size = q := Option.some.inj e; omega)
  obtain ⟨a5, n5, c5, rfl⟩ := ho5.form'
  obtain ⟨v7, w7, hrun7, ho7, hg7, _⟩ := run_append_toks (C := w.heap.size) (v := .slice a5 n5 c5) (vx := .slice (some ⟨w5.heap.size, 0, none⟩) 1 1) (xs := [] ++ T) (ys := [sgT x.data.toList]) (ty := 35) (OwnToks.alloc ho5 (.cells #[.int .i64 3, .string x, .int .i64 0, .int .i64 0] 72)) (src_tok (World.cell?_alloc_at _ _ _ _ rfl) (World.cell?_alloc_at _ _ _ _ rfl) (World.cell?_alloc_at _ _ _ _ rfl) (World.cell?_alloc_at _ _ _ _ rfl)) hNT (by simp; omega) (by have := hb5.size; simp; omega)
  have HB7 : Hid (Below w.heap.size w w7) := Lib.hid ((hb5.alloc hb5.size _).grown hg7 (by have := hb5.size; simp; omega) (fun q e => (ho5.lt q e).1))
  have HO7 : Hid (OwnToks w.heap.size w7 v7 (T ++ [sgT x.data.toList])) := Lib.hid (by simpa using ho7)
  have HR5 := Lib.hid hrun5
  have HR7 := Lib.hid hrun7
  clear hrun5 ho5 hg5 hb5 hrun7 ho7 hg7 hTO hNT
  go_enter Tryz.func54, Tryz.ntmps54
  go_wp2_with first
    | (at_builtin; refine wpList_yes' rfl (fun K hK => wp_of_append (s := .tmp 5) (x := .tmp 6) _ rfl rfl rfl HR5.out (hK _ _ ?_)))
    | (at_builtin; refine wpList_yes' rfl (fun K hK => wp_of_append (s := .tmp 7) (x := .tmp 10) _ rfl rfl rfl HR7.out (hK _ _ ?_)))
  go_ret
  exact ⟨⟨_, rfl, HO7.out⟩, HB7.out⟩
set_option maxHeartbeats 4000000 in
set_option maxRecDepth 100000 in
theorem zdigits_any (B : Nat) (w : World) (v : Value) (T : List Tok) (x : ByteArray) (n : Int) (hB : B ≤ w.heap.size) (hv : IsToks B w v T) (hn : T.length ≤ 900000) (hx : x.size ≤ 140737488351232) (hi : I64 n) :
    Calls Tryz.prog 53 #[v, .string x, .int .i64 n] w fun e w' => (∃ v', e = .returned v' ∧ OwnToks w.heap.size w' v' (T ++ [nmT x.data.toList, nuT n])) ∧ Below w.heap.size w w' := by
  have HPUT := Lib.hid (zput_any B w v T x hB hv (by omega) hx)
  obtain ⟨a1, c1, rfl, _⟩ := hv.form
  obtain ⟨N, hN⟩ : ∃ N, T.length = N := ⟨_, rfl⟩
  rw [hN] at hn HPUT ⊢
  have HNN := Lib.hid hN
  have HNI : Hid (∀ t ∈ [nuT n], okT t) := Lib.hid (by
    intro t ht
    obtain rfl := List.mem_singleton.1 ht
    exact ⟨by show I64 2; unfold I64; decide, by show ([] : List UInt8).length ≤ _; simp, hi, by show I64 0; unfold I64; decide⟩)
  have HN := Lib.hid hn
  clear hv hN hn
  go_enter Tryz.func53, Tryz.ntmps53
  go_wp2_with fail
  refine HPUT.out.mono ?_
  clear HPUT
  rintro e w1 ⟨⟨v1, rfl, ho⟩, hb⟩
  have HB1 := Lib.hid hb
  have hb1 := hb.size
  obtain ⟨a5, n5, c5, rfl⟩ := ho.form'
  have hle : (T ++ [nmT x.data.toList]).length + [nuT n].length ≤ 3518437208800 := by have := HNN.out; have := HN.out; simp; omega
  obtain ⟨v7, w7, hrun7, ho7, hg7, _⟩ := run_append_toks (C := w.heap.size) (v := .slice a5 n5 c5) (vx := .slice (some ⟨w1.heap.size, 0, none⟩) 1 1) (xs := T ++ [nmT x.data.toList]) (ys := [nuT n]) (ty := 35) (OwnToks.alloc ho (.cells #[.int .i64 2, .string ⟨#[]⟩, .int .i64 n, .int .i64 0] 72)) (src_tok (World.cell?_alloc_at _ _ _ _ rfl) (World.cell?_alloc_at _ _ _ _ rfl) (World.cell?_alloc_at _ _ _ _ rfl) (World.cell?_alloc_at _ _ _ _ rfl)) HNI.out hle (by simp; omega)
  have HB7 : Hid (Below w.heap.size w w7) := Lib.hid ((HB1.out.alloc hb1 _).grown hg7 (by simp; omega) (fun q e => (ho.lt q e).1))
  have HO7 : Hid (OwnToks w.heap.size w7 v7 (T ++ [nmT x.data.toList, nuT n])) := Lib.hid (by simpa using ho7)
  have HR7 := Lib.hid hrun7
  clear hrun7 ho hg7 ho7 hb hle
  go_wp2_with (at_builtin; refine wpList_yes' rfl (fun K hK => wp_of_append (s := .tmp 9) (x := .tmp 12) _ rfl rfl rfl HR7.out (hK _ _ ?_)))
  go_ret
  exact ⟨⟨_, rfl, HO7.out⟩, HB7.out⟩
end Go.Proofs.YtfnmidddgjlipaaGreatDoor

/-
  Layer 17: the walk of the specification's printer, second part: Tokens (printed by tools/genz11.py).
-/
set_option linter.unusedVariables false
set_option linter.unusedSimpArgs false
namespace Go.Proofs.YtfnmidddgjlipaaGreatDoor
open Go.RowKit

theorem toks_mono {C C' : Nat} {w : World} {v : Value} {xs : List Tok} (h : OwnToks C w v xs) (hC : C' ≤ C) : OwnToks C' w v xs := by
  obtain ⟨⟨h0, h1⟩, h2, h3⟩ := h
  refine ⟨⟨h0, ?_⟩, h2, h3⟩
  rcases h1 with ⟨rfl, hn⟩ | ⟨g, cap, cur, rfl, k1, k2, k3⟩
  · exact .inl ⟨rfl, hn⟩
  · exact .inr ⟨g, cap, cur, rfl, by omega, k2, k3⟩
theorem str_of {L : List UInt8} {y : ByteArray} (h : strV L = .string y) : y.data.toList = L := by
  unfold strV at h
  injection h with h
  rw [← h]
set_option maxHeartbeats 16000000 in
set_option maxRecDepth 100000 in
theorem ztokens_any (B : Nat) (w : World) (v : Value) (ts : List Tok) (va : Value) (x : WishD) (hB : B ≤ w.heap.size) (hv : IsToks B w v ts) (hn : ts.length ≤ 800000) (hva : IsStrs B w va x.against) (hok : okW x) (hag : x.against.length ≤ 1000) :
    Calls Tryz.prog 20 #[v, wishV va x] w fun e w' => (∃ v', e = .returned v' ∧ OwnToks w.heap.size w' v' (ts ++ ordT x)) ∧ Below w.heap.size w w' := by
  have HSTR := Lib.hid hva
  have HOK := Lib.hid hok
  have HBX := Lib.hid hB
  obtain ⟨avx, cvx, rfl, hcv1, hcv2, hcv3⟩ := IsRecs.form hva
  obtain ⟨S, hS⟩ : ∃ S, w.heap.size = S := ⟨_, rfl⟩
  have HSZ := Lib.hid hS
  obtain ⟨y1, hy1⟩ : ∃ y : ByteArray, strV x.name = .string y := ⟨_, rfl⟩
  obtain ⟨y2, hy2⟩ : ∃ y : ByteArray, strV x.frm = .string y := ⟨_, rfl⟩
  obtain ⟨y3, hy3⟩ : ∃ y : ByteArray, strV x.to = .string y := ⟨_, rfl⟩
  obtain ⟨y4, hy4⟩ : ∃ y : ByteArray, strV x.cls = .string y := ⟨_, rfl⟩
  have HY1 : Hid (y1.data.toList = x.name ∧ y1.size ≤ 140737488351232) := Lib.hid ⟨str_of hy1, by rw [← size_data, str_of hy1]; exact hok.1⟩
  have HY2 : Hid (y2.data.toList = x.frm ∧ y2.size ≤ 140737488351232) := Lib.hid ⟨str_of hy2, by rw [← size_data, str_of hy2]; exact hok.2.1⟩
  have HY3 : Hid (y3.data.toList = x.to ∧ y3.size ≤ 140737488351232) := Lib.hid ⟨str_of hy3, by rw [← size_data, str_of hy3]; exact hok.2.2.1⟩
  have HY4 : Hid (y4.data.toList = x.cls ∧ y4.size ≤ 140737488351232) := Lib.hid ⟨str_of hy4, by rw [← size_data, str_of hy4]; exact hok.2.2.2.1⟩
  have HI : Hid (I64 x.after ∧ I64 x.by_ ∧ I64 x.crowd ∧ I64 x.pay ∧ I64 x.els) := Lib.hid ⟨hok.2.2.2.2.1, hok.2.2.2.2.2.1, hok.2.2.2.2.2.2.1, hok.2.2.2.2.2.2.2.1, hok.2.2.2.2.2.2.2.2⟩
  unfold wishV wishC
  rw [hy1, hy2, hy3, hy4]
  clear hy1 hy2 hy3 hy4 hva hok
  obtain ⟨W0, hW0⟩ : ∃ W, w.alloc (.cells #[.string y1, .string y2, .string y3, .string y4, .int .i64 x.after, .int .i64 x.by_, .int .i64 x.crowd, .int .i64 x.pay, .slice avx x.against.length cvx, .bool x.back, .int .i64 x.els] 34) = W := ⟨_, rfl⟩
  have HB0 : Hid (Below w.heap.size w W0) := Lib.hid (by rw [← hW0]; exact box_below' _ _)
  have HX0 : Hid (CellsN W0 S #[.string y1, .string y2, .string y3, .string y4, .int .i64 x.after, .int .i64 x.by_, .int .i64 x.crowd, .int .i64 x.pay, .slice avx x.against.length cvx, .bool x.back, .int .i64 x.els]) := Lib.hid (by rw [← hW0, ← hS]; exact CellsN.new w _ _)
  have HT0 : Hid (IsToks W0.heap.size W0 v (ts ++ [])) := Lib.hid (by rw [List.append_nil]; exact (hv.below HB0.out hB).mono (Nat.le_trans hB HB0.out.size))
  have HW0 := Lib.hid hW0
  obtain ⟨a0, n0, c0, hv0⟩ : ∃ a n c, v = .slice a n c := by obtain ⟨a, c, e, _⟩ := hv.form; exact ⟨a, _, c, e⟩
  subst hv0
  clear hW0 hv hB
  go_enter Tryz.func20, Tryz.ntmps20
  go_upto_region 1 with fail
  try rw [HW0.out]
  try rw [hS]
  clear hS
  have HPUT1 : Hid (∀ W, W0.heap.size ≤ W.heap.size → IsToks W0.heap.size W (.slice a0 n0 c0) (ts ++ []) → Calls Tryz.prog 52 #[.slice a0 n0 c0, .string ⟨#[108, 101, 116, 116, 101, 114]⟩] W fun e w' => (∃ v', e = .returned v' ∧ OwnToks W.heap.size w' v' ((ts ++ []) ++ [nmT wLetter])) ∧ Below W.heap.size W w') := Lib.hid (fun W hz ht => zput_any W0.heap.size W _ (ts ++ []) ⟨#[108, 101, 116, 116, 101, 114]⟩ hz ht (by simp; omega) (by decide))
  have HPUT2 : Hid (∀ W u, IsToks W.heap.size W u (ts ++ [nmT wLetter]) → Calls Tryz.prog 52 #[u, .string y1] W fun e w' => (∃ v', e = .returned v' ∧ OwnToks W.heap.size w' v' ((ts ++ [nmT wLetter]) ++ [nmT x.name])) ∧ Below W.heap.size W w') := Lib.hid (fun W u ht => by rw [← HY1.out.1]; exact zput_any W.heap.size W u (ts ++ [nmT wLetter]) y1 (Nat.le_refl _) ht (by simp; omega) HY1.out.2)
  have HB0' : Hid (Below w.heap.size w W0.drew) := Lib.hid (HB0.out.trans ((Drew.refl _).drewN 1 |>.below _))
  have HX0' : Hid (CellsN W0.drew S #[.string y1, .string y2, .string y3, .string y4, .int .i64 x.after, .int .i64 x.by_, .int .i64 x.crowd, .int .i64 x.pay, .slice avx x.against.length cvx, .bool x.back, .int .i64 x.els]) := Lib.hid HX0.out
  have HT0' : Hid (IsToks W0.heap.size W0.drew (.slice a0 n0 c0) (ts ++ [])) := Lib.hid (HT0.out.below ((Drew.refl _).drewN 1 |>.below _) (Nat.le_refl _))
  obtain ⟨V, hV⟩ : ∃ V : List (Option Value), V = [some (.slice a0 n0 c0), none, some (.pointer (some ⟨S, 0, none⟩)), some (.string y1), none, none] := ⟨_, rfl⟩
  have HVV := Lib.hid hV
  clear hV
  refine wp_region_V [some 6, some 7, some 8, some 9, some 10, some 0] (fun L w' xs => ValsAt V L xs ∧ (Below w.heap.size w w' ∧ CellsN w' S #[.string y1, .string y2, .string y3, .string y4, .int .i64 x.after, .int .i64 x.by_, .int .i64 x.crowd, .int .i64 x.pay, .slice avx x.against.length cvx, .bool x.back, .int .i64 x.els] ∧ W0.heap.size ≤ w'.heap.size ∧ IsToks W0.heap.size w' (.slice a0 n0 c0) (ts ++ []) ∧ (L 1 = true → IsToks w'.heap.size w' (xs 1) (ts ++ [nmT wLetter])) ∧ (L 4 = true → IsToks w'.heap.size w' (xs 4) (ts ++ [nmT wLetter, nmT x.name])) ∧ (L 5 = true → L 0 = true ∧ L 4 = true ∧ xs 5 = xs 4))) (by kernel_rfl) (by kernel_rfl) (by rfl) (by rfl) (by rfl) ?_ ?_ ?_
  focus
    exact fun xs => ⟨ValsAt.none _ _, HB0'.out, HX0'.out, Nat.le_refl _, HT0'.out, (fun h => by cases h), (fun h => by cases h), (fun h => by cases h)⟩
  focus
    refine ⟨?_, ?_, ?_, ?_, ?_, ?_, trivial⟩
    all_goals
      intro L a' w' xs hi hd hf hJ K hK
      obtain ⟨hv, hb, hx, hz, ht, h1, h4, h5⟩ := hJ
      have HF := Lib.hid hf
      have HVA := Lib.hid hv
      have HLI := Lib.hid hi
      clear hf hv hi
    focus
      clear hd
      obtain ⟨ρ, hρ⟩ : ∃ ρ, a'.eval = ρ := ⟨_, rfl⟩
      have hcst : ∀ v, ρ (.const v) = v := fun v => (congrFun hρ (.const v)).symm
      have h50 : L 5 = false := by
        cases hq : L 5 with
        | false => rfl
        | true => exact absurd (h5 hq).1 (by rw [HLI.out]; decide)
      have H50 := Lib.hid h50
      have l0 : ρ (.tmp 0) = .slice a0 n0 c0 := (congrFun hρ (.tmp 0)).symm.trans (HF.out.rest 5 0 rfl h50)
      clear h50
      rw [if_pos (by simp [Region.wanted])]
      unfold Oper.wp
      rw [hρ]
      clear hρ
      have Hhb := Lib.hid hb
      have Hhx := Lib.hid hx
      have Hht := Lib.hid ht
      have Hh1 := Lib.hid h1
      have Hh4 := Lib.hid h4
      have Hh5 := Lib.hid h5
      clear hb hx ht h1 h4 h5
      go_simp
      exact hK.out _ _ ⟨HVA.out.set (i := 0) (by rw [HVV.out]; rfl), Hhb.out, Hhx.out, hz, Hht.out, by simp only [upd_ne (L := L) (show (1 : Nat) ≠ 0 by decide), updV_ne (xs := xs) (show (1 : Nat) ≠ 0 by decide)]; exact Hh1.out, by simp only [upd_ne (L := L) (show (4 : Nat) ≠ 0 by decide), updV_ne (xs := xs) (show (4 : Nat) ≠ 0 by decide)]; exact Hh4.out, (fun hh => by simp only [upd_ne (L := L) (show (5 : Nat) ≠ 0 by decide)] at hh; rw [H50.out] at hh; cases hh)⟩
    focus
      obtain ⟨d0, _⟩ := hd
      obtain ⟨ρ, hρ⟩ : ∃ ρ, a'.eval = ρ := ⟨_, rfl⟩
      have hcst : ∀ v, ρ (.const v) = v := fun v => (congrFun hρ (.const v)).symm
      have hfun : ∀ k, ρ (.func k) = .func (.func k) #[] #[] := fun k => (congrFun hρ (.func k)).symm
      have v0 : ρ (.tmp 6) = .slice a0 n0 c0 := (congrFun hρ (.tmp 6)).symm.trans ((HF.out.ev 0 rfl d0).trans (HVA.out 0 _ (by rw [HVV.out]; rfl) d0))
      rw [if_pos (by simp [Region.wanted])]
      unfold Oper.wp
      rw [hρ]
      clear hρ
      have Hhb := Lib.hid hb
      have Hhx := Lib.hid hx
      have Hht := Lib.hid ht
      have Hh1 := Lib.hid h1
      have Hh4 := Lib.hid h4
      have Hh5 := Lib.hid h5
      clear hb hx ht h1 h4 h5
      go_simp
      go_at_call 52
      refine (HPUT1.out w' hz Hht.out).mono ?_
      rintro e w5 ⟨⟨v5, rfl, ho5⟩, hb5⟩
      have Hb5 := Lib.hid hb5
      have Ho5 := Lib.hid ho5
      clear hb5 ho5
      exact hK.out _ _ ⟨HVA.out.free (i := 1) (by rw [HVV.out]; rfl) _, Hhb.out.trans (Hb5.out.mono Hhb.out.size), Hhx.out.ext Hb5.out, Nat.le_trans hz Hb5.out.size, Hht.out.below Hb5.out hz, (fun _ => by rw [updV_self]; have := Ho5.out.isToks; simpa using this), (fun hh => by simp only [upd_ne (L := L) (show (4 : Nat) ≠ 1 by decide), updV_ne (xs := xs) (show (4 : Nat) ≠ 1 by decide)] at hh ⊢; exact ((Hh4.out hh).below Hb5.out (Nat.le_refl _)).mono Hb5.out.size), by simp only [upd_ne (L := L) (show (0 : Nat) ≠ 1 by decide), upd_ne (L := L) (show (4 : Nat) ≠ 1 by decide), upd_ne (L := L) (show (5 : Nat) ≠ 1 by decide), updV_ne (xs := xs) (show (0 : Nat) ≠ 1 by decide), updV_ne (xs := xs) (show (4 : Nat) ≠ 1 by decide), updV_ne (xs := xs) (show (5 : Nat) ≠ 1 by decide)]; exact Hh5.out⟩
    focus
      clear hd
      obtain ⟨ρ, hρ⟩ : ∃ ρ, a'.eval = ρ := ⟨_, rfl⟩
      have hcst : ∀ v, ρ (.const v) = v := fun v => (congrFun hρ (.const v)).symm
      have l3 : ρ (.tmp 3) = .pointer (some ⟨S, 0, none⟩) := (congrFun hρ (.tmp 3)).symm.trans (HF.out.lo 3 rfl)
      rw [if_pos (by simp [Region.wanted])]
      unfold Oper.wp
      rw [hρ]
      clear hρ
      have Hhb := Lib.hid hb
      have Hhx := Lib.hid hx
      have Hht := Lib.hid ht
      have Hh1 := Lib.hid h1
      have Hh4 := Lib.hid h4
      have Hh5 := Lib.hid h5
      clear hb hx ht h1 h4 h5
      go_simp
      exact hK.out _ _ ⟨HVA.out.set (i := 2) (by rw [HVV.out]; rfl), Hhb.out, Hhx.out, hz, Hht.out, by simp only [upd_ne (L := L) (show (1 : Nat) ≠ 2 by decide), updV_ne (xs := xs) (show (1 : Nat) ≠ 2 by decide)]; exact Hh1.out, by simp only [upd_ne (L := L) (show (4 : Nat) ≠ 2 by decide), updV_ne (xs := xs) (show (4 : Nat) ≠ 2 by decide)]; exact Hh4.out, by simp only [upd_ne (L := L) (show (0 : Nat) ≠ 2 by decide), upd_ne (L := L) (show (4 : Nat) ≠ 2 by decide), upd_ne (L := L) (show (5 : Nat) ≠ 2 by decide), updV_ne (xs := xs) (show (0 : Nat) ≠ 2 by decide), updV_ne (xs := xs) (show (4 : Nat) ≠ 2 by decide), updV_ne (xs := xs) (show (5 : Nat) ≠ 2 by decide)]; exact Hh5.out⟩
    focus
      obtain ⟨d2, _⟩ := hd
      obtain ⟨ρ, hρ⟩ : ∃ ρ, a'.eval = ρ := ⟨_, rfl⟩
      have hcst : ∀ v, ρ (.const v) = v := fun v => (congrFun hρ (.const v)).symm
      have v2 : ρ (.tmp 8) = .pointer (some ⟨S, 0, none⟩) := (congrFun hρ (.tmp 8)).symm.trans ((HF.out.ev 2 rfl d2).trans (HVA.out 2 _ (by rw [HVV.out]; rfl) d2))
      rw [if_pos (by simp [Region.wanted])]
      unfold Oper.wp
      rw [hρ]
      clear hρ
      have Hhb := Lib.hid hb
      have Hhx := Lib.hid hx
      have Hht := Lib.hid ht
      have Hh1 := Lib.hid h1
      have Hh4 := Lib.hid h4
      have Hh5 := Lib.hid h5
      clear hb hx ht h1 h4 h5
      have q0 := Hhx.out.cell 0
      simp at q0
      go_simp
      exact hK.out _ _ ⟨HVA.out.set (i := 3) (by rw [HVV.out]; rfl), Hhb.out, Hhx.out, hz, Hht.out, by simp only [upd_ne (L := L) (show (1 : Nat) ≠ 3 by decide), updV_ne (xs := xs) (show (1 : Nat) ≠ 3 by decide)]; exact Hh1.out, by simp only [upd_ne (L := L) (show (4 : Nat) ≠ 3 by decide), updV_ne (xs := xs) (show (4 : Nat) ≠ 3 by decide)]; exact Hh4.out, by simp only [upd_ne (L := L) (show (0 : Nat) ≠ 3 by decide), upd_ne (L := L) (show (4 : Nat) ≠ 3 by decide), upd_ne (L := L) (show (5 : Nat) ≠ 3 by decide), updV_ne (xs := xs) (show (0 : Nat) ≠ 3 by decide), updV_ne (xs := xs) (show (4 : Nat) ≠ 3 by decide), updV_ne (xs := xs) (show (5 : Nat) ≠ 3 by decide)]; exact Hh5.out⟩
    focus
      obtain ⟨d1, d3, _, _⟩ := hd
      obtain ⟨ρ, hρ⟩ : ∃ ρ, a'.eval = ρ := ⟨_, rfl⟩
      have hcst : ∀ v, ρ (.const v) = v := fun v => (congrFun hρ (.const v)).symm
      have hfun : ∀ k, ρ (.func k) = .func (.func k) #[] #[] := fun k => (congrFun hρ (.func k)).symm
      have v1 : ρ (.tmp 7) = xs 1 := (congrFun hρ (.tmp 7)).symm.trans (HF.out.ev 1 rfl d1)
      have v3 : ρ (.tmp 9) = .string y1 := (congrFun hρ (.tmp 9)).symm.trans ((HF.out.ev 3 rfl d3).trans (HVA.out 3 _ (by rw [HVV.out]; rfl) d3))
      rw [if_pos (by simp [Region.wanted])]
      unfold Oper.wp
      rw [hρ]
      clear hρ
      have Hhb := Lib.hid hb
      have Hhx := Lib.hid hx
      have Hht := Lib.hid ht
      have Hh1 := Lib.hid h1
      have Hh4 := Lib.hid h4
      have Hh5 := Lib.hid h5
      clear hb hx ht h1 h4 h5
      have H1 := Lib.hid (Hh1.out d1)
      obtain ⟨aq, cq, hxq, _⟩ := H1.out.form
      obtain ⟨nq, hnq⟩ : ∃ q, (ts ++ [nmT wLetter]).length = q := ⟨_, rfl⟩
      rw [hnq] at hxq
      clear hnq
      rw [hxq] at v1
      have HXQ := Lib.hid hxq
      clear hxq
      go_simp
      go_at_call 52
      refine (HPUT2.out w' _ (by rw [← HXQ.out]; exact H1.out)).mono ?_
      rintro e w5 ⟨⟨v5, rfl, ho5⟩, hb5⟩
      have Hb5 := Lib.hid hb5
      have Ho5 := Lib.hid ho5
      clear hb5 ho5
      exact hK.out _ _ ⟨HVA.out.free (i := 4) (by rw [HVV.out]; rfl) _, Hhb.out.trans (Hb5.out.mono Hhb.out.size), Hhx.out.ext Hb5.out, Nat.le_trans hz Hb5.out.size, Hht.out.below Hb5.out hz, (fun hh => by simp only [upd_ne (L := L) (show (1 : Nat) ≠ 4 by decide), updV_ne (xs := xs) (show (1 : Nat) ≠ 4 by decide)] at hh ⊢; exact ((Hh1.out hh).below Hb5.out (Nat.le_refl _)).mono Hb5.out.size), (fun _ => by rw [updV_self]; have := Ho5.out.isToks; simpa using this), (fun hh => by simp only [upd_ne (L := L) (show (5 : Nat) ≠ 4 by decide)] at hh; have := (Hh5.out hh).2.1; rw [HLI.out] at this; cases this)⟩
    focus
      obtain ⟨d4, _, d0, d1, d2, d3, _, _⟩ := hd
      obtain ⟨ρ, hρ⟩ : ∃ ρ, a'.eval = ρ := ⟨_, rfl⟩
      have hcst : ∀ v, ρ (.const v) = v := fun v => (congrFun hρ (.const v)).symm
      have v4 : ρ (.tmp 10) = xs 4 := (congrFun hρ (.tmp 10)).symm.trans (HF.out.ev 4 rfl d4)
      rw [if_pos (by simp [Region.wanted])]
      unfold Oper.wp
      rw [hρ]
      clear hρ
      have Hhb := Lib.hid hb
      have Hhx := Lib.hid hx
      have Hht := Lib.hid ht
      have Hh1 := Lib.hid h1
      have Hh4 := Lib.hid h4
      have Hh5 := Lib.hid h5
      clear hb hx ht h1 h4 h5
      obtain ⟨aq, cq, hxq, _⟩ := (Hh4.out d4).form
      obtain ⟨nq, hnq⟩ : ∃ q, (ts ++ [nmT wLetter, nmT x.name]).length = q := ⟨_, rfl⟩
      rw [hnq] at hxq
      clear hnq
      rw [hxq] at v4
      have HXQ := Lib.hid hxq
      clear hxq
      go_simp
      exact hK.out _ _ ⟨HVA.out.free (i := 5) (by rw [HVV.out]; rfl) _, Hhb.out, Hhx.out, hz, Hht.out, by simp only [upd_ne (L := L) (show (1 : Nat) ≠ 5 by decide), updV_ne (xs := xs) (show (1 : Nat) ≠ 5 by decide)]; exact Hh1.out, by simp only [upd_ne (L := L) (show (4 : Nat) ≠ 5 by decide), updV_ne (xs := xs) (show (4 : Nat) ≠ 5 by decide)]; exact Hh4.out, (fun _ => ⟨(upd_ne (L := L) (show (0 : Nat) ≠ 5 by decide)).trans d0, (upd_ne (L := L) (show (4 : Nat) ≠ 5 by decide)).trans d4, by rw [updV_self, updV_ne (xs := xs) (show (4 : Nat) ≠ 5 by decide), HXQ.out]⟩)⟩
  focus
    intro L w' xs hL hJ
    obtain ⟨hv, hb, hx, hz, ht, h1, h4, h5⟩ := hJ
    have e0 : xs 0 = .slice a0 n0 c0 := hv 0 _ (by rw [HVV.out]; rfl) (hL 0 (by decide))
    have e2 : xs 2 = .pointer (some ⟨S, 0, none⟩) := hv 2 _ (by rw [HVV.out]; rfl) (hL 2 (by decide))
    have e3 : xs 3 = .string y1 := hv 3 _ (by rw [HVV.out]; rfl) (hL 3 (by decide))
    simp only [putGo, Act.put, List.setIfInBounds_toArray, List.set_cons_zero, List.set_cons_succ, e0, e2, e3]
    clear hv e0 e2 e3
    obtain ⟨_, h54, h55⟩ := h5 (hL 5 (by decide))
    have HT1 := Lib.hid (h4 (hL 4 (by decide)))
    obtain ⟨a1, c1, hx4, _⟩ := HT1.out.form
    obtain ⟨n1, hn1⟩ : ∃ q, (ts ++ [nmT wLetter, nmT x.name]).length = q := ⟨_, rfl⟩
    rw [hn1] at hx4
    have hx1 : ∃ z, xs 1 = z := ⟨_, rfl⟩
    obtain ⟨z1, hz1⟩ := hx1
    rw [h55, hx4, hz1]
    rw [hx4] at HT1
    have HB1 := Lib.hid hb
    have HX1 := Lib.hid hx
    obtain ⟨W1, hW1⟩ : ∃ W, w' = W := ⟨_, rfl⟩
    rw [hW1] at HT1 HB1 HX1 ⊢
    clear hb hx hz ht h1 h4 h5 h54 h55 hx4 hz1 hL HPUT1 HPUT2 HVV
    go_upto_region 2 with fail
    have HPUT1 : Hid (∀ W, W1.heap.size ≤ W.heap.size → IsToks W1.heap.size W (.slice a1 n1 c1) (ts ++ [nmT wLetter, nmT x.name]) → Calls Tryz.prog 52 #[.slice a1 n1 c1, .string ⟨#[102, 114, 111, 109]⟩] W fun e w' => (∃ v', e = .returned v' ∧ OwnToks W.heap.size w' v' ((ts ++ [nmT wLetter, nmT x.name]) ++ [nmT wFrom])) ∧ Below W.heap.size W w') := Lib.hid (fun W hz ht => zput_any W1.heap.size W _ (ts ++ [nmT wLetter, nmT x.name]) ⟨#[102, 114, 111, 109]⟩ hz ht (by simp; omega) (by decide))
    have HPUT2 : Hid (∀ W u, IsToks W.heap.size W u (ts ++ [nmT wLetter, nmT x.name, nmT wFrom]) → Calls Tryz.prog 52 #[u, .string y2] W fun e w' => (∃ v', e = .returned v' ∧ OwnToks W.heap.size w' v' ((ts ++ [nmT wLetter, nmT x.name, nmT wFrom]) ++ [nmT x.frm])) ∧ Below W.heap.size W w') := Lib.hid (fun W u ht => by rw [← HY2.out.1]; exact zput_any W.heap.size W u (ts ++ [nmT wLetter, nmT x.name, nmT wFrom]) y2 (Nat.le_refl _) ht (by simp; omega) HY2.out.2)
    have HB1' : Hid (Below w.heap.size w W1.drew) := Lib.hid (HB1.out.trans ((Drew.refl _).drewN 1 |>.below _))
    have HX1' : Hid (CellsN W1.drew S #[.string y1, .string y2, .string y3, .string y4, .int .i64 x.after, .int .i64 x.by_, .int .i64 x.crowd, .int .i64 x.pay, .slice avx x.against.length cvx, .bool x.back, .int .i64 x.els]) := Lib.hid HX1.out
    have HT1' : Hid (IsToks W1.heap.size W1.drew (.slice a1 n1 c1) (ts ++ [nmT wLetter, nmT x.name])) := Lib.hid (HT1.out.below ((Drew.refl _).drewN 1 |>.below _) (Nat.le_refl _))
    obtain ⟨V, hV⟩ : ∃ V : List (Option Value), V = [some (.slice a1 n1 c1), none, some (.pointer (some ⟨S, 1, none⟩)), some (.string y2), none, none] := ⟨_, rfl⟩
    have HVV := Lib.hid hV
    clear hV
    refine wp_region_V [some 11, some 12, some 13, some 14, some 15, some 0] (fun L w' xs => ValsAt V L xs ∧ (Below w.heap.size w w' ∧ CellsN w' S #[.string y1, .string y2, .string y3, .string y4, .int .i64 x.after, .int .i64 x.by_, .int .i64 x.crowd, .int .i64 x.pay, .slice avx x.against.length cvx, .bool x.back, .int .i64 x.els] ∧ W1.heap.size ≤ w'.heap.size ∧ IsToks W1.heap.size w' (.slice a1 n1 c1) (ts ++ [nmT wLetter, nmT x.name]) ∧ (L 1 = true → IsToks w'.heap.size w' (xs 1) (ts ++ [nmT wLetter, nmT x.name, nmT wFrom])) ∧ (L 4 = true → IsToks w'.heap.size w' (xs 4) (ts ++ [nmT wLetter, nmT x.name, nmT wFrom, nmT x.frm])) ∧ (L 5 = true → L 0 = true ∧ L 4 = true ∧ xs 5 = xs 4))) (by kernel_rfl) (by kernel_rfl) (by rfl) (by rfl) (by rfl) ?_ ?_ ?_
    focus
      exact fun xs => ⟨ValsAt.none _ _, HB1'.out, HX1'.out, Nat.le_refl _, HT1'.out, (fun h => by cases h), (fun h => by cases h), (fun h => by cases h)⟩
    focus
      refine ⟨?_, ?_, ?_, ?_, ?_, ?_, trivial⟩
      all_goals
        intro L a' w' xs hi hd hf hJ K hK
        obtain ⟨hv, hb, hx, hz, ht, h1, h4, h5⟩ := hJ
        have HF := Lib.hid hf
        have HVA := Lib.hid hv
        have HLI := Lib.hid hi
        clear hf hv hi
      focus
        clear hd
        obtain ⟨ρ, hρ⟩ : ∃ ρ, a'.eval = ρ := ⟨_, rfl⟩
        have hcst : ∀ v, ρ (.const v) = v := fun v => (congrFun hρ (.const v)).symm
        have h50 : L 5 = false := by
          cases hq : L 5 with
          | false => rfl
          | true => exact absurd (h5 hq).1 (by rw [HLI.out]; decide)
        have H50 := Lib.hid h50
        have l0 : ρ (.tmp 0) = .slice a1 n1 c1 := (congrFun hρ (.tmp 0)).symm.trans (HF.out.rest 5 0 rfl h50)
        clear h50
        rw [if_pos (by simp [Region.wanted])]
        unfold Oper.wp
        rw [hρ]
        clear hρ
        have Hhb := Lib.hid hb
        have Hhx := Lib.hid hx
        have Hht := Lib.hid ht
        have Hh1 := Lib.hid h1
        have Hh4 := Lib.hid h4
        have Hh5 := Lib.hid h5
        clear hb hx ht h1 h4 h5
        go_simp
        exact hK.out _ _ ⟨HVA.out.set (i := 0) (by rw [HVV.out]; rfl), Hhb.out, Hhx.out, hz, Hht.out, by simp only [upd_ne (L := L) (show (1 : Nat) ≠ 0 by decide), updV_ne (xs := xs) (show (1 : Nat) ≠ 0 by decide)]; exact Hh1.out, by simp only [upd_ne (L := L) (show (4 : Nat) ≠ 0 by decide), updV_ne (xs := xs) (show (4 : Nat) ≠ 0 by decide)]; exact Hh4.out, (fun hh => by simp only [upd_ne (L := L) (show (5 : Nat) ≠ 0 by decide)] at hh; rw [H50.out] at hh; cases hh)⟩
      focus
        obtain ⟨d0, _⟩ := hd
        obtain ⟨ρ, hρ⟩ : ∃ ρ, a'.eval = ρ := ⟨_, rfl⟩
        have hcst : ∀ v, ρ (.const v) = v := fun v => (congrFun hρ (.const v)).symm
        have hfun : ∀ k, ρ (.func k) = .func (.func k) #[] #[] := fun k => (congrFun hρ (.func k)).symm
        have v0 : ρ (.tmp 11) = .slice a1 n1 c1 := (congrFun hρ (.tmp 11)).symm.trans ((HF.out.ev 0 rfl d0).trans (HVA.out 0 _ (by rw [HVV.out]; rfl) d0))
        rw [if_pos (by simp [Region.wanted])]
        unfold Oper.wp
        rw [hρ]
        clear hρ
        have Hhb := Lib.hid hb
        have Hhx := Lib.hid hx
        have Hht := Lib.hid ht
        have Hh1 := Lib.hid h1
        have Hh4 := Lib.hid h4
        have Hh5 := Lib.hid h5
        clear hb hx ht h1 h4 h5
        go_simp
        go_at_call 52
        refine (HPUT1.out w' hz Hht.out).mono ?_
        rintro e w5 ⟨⟨v5, rfl, ho5⟩, hb5⟩
        have Hb5 := Lib.hid hb5
        have Ho5 := Lib.hid ho5
        clear hb5 ho5
        exact hK.out _ _ ⟨HVA.out.free (i := 1) (by rw [HVV.out]; rfl) _, Hhb.out.trans (Hb5.out.mono Hhb.out.size), Hhx.out.ext Hb5.out, Nat.le_trans hz Hb5.out.size, Hht.out.below Hb5.out hz, (fun _ => by rw [updV_self]; have := Ho5.out.isToks; simpa using this), (fun hh => by simp only [upd_ne (L := L) (show (4 : Nat) ≠ 1 by decide), updV_ne (xs := xs) (show (4 : Nat) ≠ 1 by decide)] at hh ⊢; exact ((Hh4.out hh).below Hb5.out (Nat.le_refl _)).mono Hb5.out.size), by simp only [upd_ne (L := L) (show (0 : Nat) ≠ 1 by decide), upd_ne (L := L) (show (4 : Nat) ≠ 1 by decide), upd_ne (L := L) (show (5 : Nat) ≠ 1 by decide), updV_ne (xs := xs) (show (0 : Nat) ≠ 1 by decide), updV_ne (xs := xs) (show (4 : Nat) ≠ 1 by decide), updV_ne (xs := xs) (show (5 : Nat) ≠ 1 by decide)]; exact Hh5.out⟩
      focus
        clear hd
        obtain ⟨ρ, hρ⟩ : ∃ ρ, a'.eval = ρ := ⟨_, rfl⟩
        have hcst : ∀ v, ρ (.const v) = v := fun v => (congrFun hρ (.const v)).symm
        have l3 : ρ (.tmp 3) = .pointer (some ⟨S, 0, none⟩) := (congrFun hρ (.tmp 3)).symm.trans (HF.out.lo 3 rfl)
        rw [if_pos (by simp [Region.wanted])]
        unfold Oper.wp
        rw [hρ]
        clear hρ
        have Hhb := Lib.hid hb
        have Hhx := Lib.hid hx
        have Hht := Lib.hid ht
        have Hh1 := Lib.hid h1
        have Hh4 := Lib.hid h4
        have Hh5 := Lib.hid h5
        clear hb hx ht h1 h4 h5
        go_simp
        exact hK.out _ _ ⟨HVA.out.set (i := 2) (by rw [HVV.out]; rfl), Hhb.out, Hhx.out, hz, Hht.out, by simp only [upd_ne (L := L) (show (1 : Nat) ≠ 2 by decide), updV_ne (xs := xs) (show (1 : Nat) ≠ 2 by decide)]; exact Hh1.out, by simp only [upd_ne (L := L) (show (4 : Nat) ≠ 2 by decide), updV_ne (xs := xs) (show (4 : Nat) ≠ 2 by decide)]; exact Hh4.out, by simp only [upd_ne (L := L) (show (0 : Nat) ≠ 2 by decide), upd_ne (L := L) (show (4 : Nat) ≠ 2 by decide), upd_ne (L := L) (show (5 : Nat) ≠ 2 by decide), updV_ne (xs := xs) (show (0 : Nat) ≠ 2 by decide), updV_ne (xs := xs) (show (4 : Nat) ≠ 2 by decide), updV_ne (xs := xs) (show (5 : Nat) ≠ 2 by decide)]; exact Hh5.out⟩
      focus
        obtain ⟨d2, _⟩ := hd
        obtain ⟨ρ, hρ⟩ : ∃ ρ, a'.eval = ρ := ⟨_, rfl⟩
        have hcst : ∀ v, ρ (.const v) = v := fun v => (congrFun hρ (.const v)).symm
        have v2 : ρ (.tmp 13) = .pointer (some ⟨S, 1, none⟩) := (congrFun hρ (.tmp 13)).symm.trans ((HF.out.ev 2 rfl d2).trans (HVA.out 2 _ (by rw [HVV.out]; rfl) d2))
        rw [if_pos (by simp [Region.wanted])]
        unfold Oper.wp
        rw [hρ]
        clear hρ
        have Hhb := Lib.hid hb
        have Hhx := Lib.hid hx
        have Hht := Lib.hid ht
        have Hh1 := Lib.hid h1
        have Hh4 := Lib.hid h4
        have Hh5 := Lib.hid h5
        clear hb hx ht h1 h4 h5
        have q0 := Hhx.out.cell 1
        simp at q0
        go_simp
        exact hK.out _ _ ⟨HVA.out.set (i := 3) (by rw [HVV.out]; rfl), Hhb.out, Hhx.out, hz, Hht.out, by simp only [upd_ne (L := L) (show (1 : Nat) ≠ 3 by decide), updV_ne (xs := xs) (show (1 : Nat) ≠ 3 by decide)]; exact Hh1.out, by simp only [upd_ne (L := L) (show (4 : Nat) ≠ 3 by decide), updV_ne (xs := xs) (show (4 : Nat) ≠ 3 by decide)]; exact Hh4.out, by simp only [upd_ne (L := L) (show (0 : Nat) ≠ 3 by decide), upd_ne (L := L) (show (4 : Nat) ≠ 3 by decide), upd_ne (L := L) (show (5 : Nat) ≠ 3 by decide), updV_ne (xs := xs) (show (0 : Nat) ≠ 3 by decide), updV_ne (xs := xs) (show (4 : Nat) ≠ 3 by decide), updV_ne (xs := xs) (show (5 : Nat) ≠ 3 by decide)]; exact Hh5.out⟩
      focus
        obtain ⟨d1, d3, _, _⟩ := hd
        obtain ⟨ρ, hρ⟩ : ∃ ρ, a'.eval = ρ := ⟨_, rfl⟩
        have hcst : ∀ v, ρ (.const v) = v := fun v => (congrFun hρ (.const v)).symm
        have hfun : ∀ k, ρ (.func k) = .func (.func k) #[] #[] := fun k => (congrFun hρ (.func k)).symm
        have v1 : ρ (.tmp 12) = xs 1 := (congrFun hρ (.tmp 12)).symm.trans (HF.out.ev 1 rfl d1)
        have v3 : ρ (.tmp 14) = .string y2 := (congrFun hρ (.tmp 14)).symm.trans ((HF.out.ev 3 rfl d3).trans (HVA.out 3 _ (by rw [HVV.out]; rfl) d3))
        rw [if_pos (by simp [Region.wanted])]
        unfold Oper.wp
        rw [hρ]
        clear hρ
        have Hhb := Lib.hid hb
        have Hhx := Lib.hid hx
        have Hht := Lib.hid ht
        have Hh1 := Lib.hid h1
        have Hh4 := Lib.hid h4
        have Hh5 := Lib.hid h5
        clear hb hx ht h1 h4 h5
        have H1 := Lib.hid (Hh1.out d1)
        obtain ⟨aq, cq, hxq, _⟩ := H1.out.form
        obtain ⟨nq, hnq⟩ : ∃ q, (ts ++ [nmT wLetter, nmT x.name, nmT wFrom]).length = q := ⟨_, rfl⟩
        rw [hnq] at hxq
        clear hnq
        rw [hxq] at v1
        have HXQ := Lib.hid hxq
        clear hxq
        go_simp
        go_at_call 52
        refine (HPUT2.out w' _ (by rw [← HXQ.out]; exact H1.out)).mono ?_
        rintro e w5 ⟨⟨v5, rfl, ho5⟩, hb5⟩
        have Hb5 := Lib.hid hb5
        have Ho5 := Lib.hid ho5
        clear hb5 ho5
        exact hK.out _ _ ⟨HVA.out.free (i := 4) (by rw [HVV.out]; rfl) _, Hhb.out.trans (Hb5.out.mono Hhb.out.size), Hhx.out.ext Hb5.out, Nat.le_trans hz Hb5.out.size, Hht.out.below Hb5.out hz, (fun hh => by simp only [upd_ne (L := L) (show (1 : Nat) ≠ 4 by decide), updV_ne (xs := xs) (show (1 : Nat) ≠ 4 by decide)] at hh ⊢; exact ((Hh1.out hh).below Hb5.out (Nat.le_refl _)).mono Hb5.out.size), (fun _ => by rw [updV_self]; have := Ho5.out.isToks; simpa using this), (fun hh => by simp only [upd_ne (L := L) (show (5 : Nat) ≠ 4 by decide)] at hh; have := (Hh5.out hh).2.1; rw [HLI.out] at this; cases this)⟩
      focus
        obtain ⟨d4, _, d0, d1, d2, d3, _, _⟩ := hd
        obtain ⟨ρ, hρ⟩ : ∃ ρ, a'.eval = ρ := ⟨_, rfl⟩
        have hcst : ∀ v, ρ (.const v) = v := fun v => (congrFun hρ (.const v)).symm
        have v4 : ρ (.tmp 15) = xs 4 := (congrFun hρ (.tmp 15)).symm.trans (HF.out.ev 4 rfl d4)
        rw [if_pos (by simp [Region.wanted])]
        unfold Oper.wp
        rw [hρ]
        clear hρ
        have Hhb := Lib.hid hb
        have Hhx := Lib.hid hx
        have Hht := Lib.hid ht
        have Hh1 := Lib.hid h1
        have Hh4 := Lib.hid h4
        have Hh5 := Lib.hid h5
        clear hb hx ht h1 h4 h5
        obtain ⟨aq, cq, hxq, _⟩ := (Hh4.out d4).form
        obtain ⟨nq, hnq⟩ : ∃ q, (ts ++ [nmT wLetter, nmT x.name, nmT wFrom, nmT x.frm]).length = q := ⟨_, rfl⟩
        rw [hnq] at hxq
        clear hnq
        rw [hxq] at v4
        have HXQ := Lib.hid hxq
        clear hxq
        go_simp
        exact hK.out _ _ ⟨HVA.out.free (i := 5) (by rw [HVV.out]; rfl) _, Hhb.out, Hhx.out, hz, Hht.out, by simp only [upd_ne (L := L) (show (1 : Nat) ≠ 5 by decide), updV_ne (xs := xs) (show (1 : Nat) ≠ 5 by decide)]; exact Hh1.out, by simp only [upd_ne (L := L) (show (4 : Nat) ≠ 5 by decide), updV_ne (xs := xs) (show (4 : Nat) ≠ 5 by decide)]; exact Hh4.out, (fun _ => ⟨(upd_ne (L := L) (show (0 : Nat) ≠ 5 by decide)).trans d0, (upd_ne (L := L) (show (4 : Nat) ≠ 5 by decide)).trans d4, by rw [updV_self, updV_ne (xs := xs) (show (4 : Nat) ≠ 5 by decide), HXQ.out]⟩)⟩
    focus
      intro L w' xs hL hJ
      obtain ⟨hv, hb, hx, hz, ht, h1, h4, h5⟩ := hJ
      have e0 : xs 0 = .slice a1 n1 c1 := hv 0 _ (by rw [HVV.out]; rfl) (hL 0 (by decide))
      have e2 : xs 2 = .pointer (some ⟨S, 1, none⟩) := hv 2 _ (by rw [HVV.out]; rfl) (hL 2 (by decide))
      have e3 : xs 3 = .string y2 := hv 3 _ (by rw [HVV.out]; rfl) (hL 3 (by decide))
      simp only [putGo, Act.put, List.setIfInBounds_toArray, List.set_cons_zero, List.set_cons_succ, e0, e2, e3]
      clear hv e0 e2 e3
      obtain ⟨_, h54, h55⟩ := h5 (hL 5 (by decide))
      have HT2 := Lib.hid (h4 (hL 4 (by decide)))
      obtain ⟨a2, c2, hx4, _⟩ := HT2.out.form
      obtain ⟨n2, hn2⟩ : ∃ q, (ts ++ [nmT wLetter, nmT x.name, nmT wFrom, nmT x.frm]).length = q := ⟨_, rfl⟩
      rw [hn2] at hx4
      have hx1 : ∃ z, xs 1 = z := ⟨_, rfl⟩
      obtain ⟨z1, hz1⟩ := hx1
      rw [h55, hx4, hz1]
      rw [hx4] at HT2
      have HB2 := Lib.hid hb
      have HX2 := Lib.hid hx
      obtain ⟨W2, hW2⟩ : ∃ W, w' = W := ⟨_, rfl⟩
      rw [hW2] at HT2 HB2 HX2 ⊢
      clear hb hx hz ht h1 h4 h5 h54 h55 hx4 hz1 hL HPUT1 HPUT2 HVV
      go_upto_region 3 with fail
      have HPUT1 : Hid (∀ W, W2.heap.size ≤ W.heap.size → IsToks W2.heap.size W (.slice a2 n2 c2) (ts ++ [nmT wLetter, nmT x.name, nmT wFrom, nmT x.frm]) → Calls Tryz.prog 52 #[.slice a2 n2 c2, .string ⟨#[116, 111]⟩] W fun e w' => (∃ v', e = .returned v' ∧ OwnToks W.heap.size w' v' ((ts ++ [nmT wLetter, nmT x.name, nmT wFrom, nmT x.frm]) ++ [nmT wTo])) ∧ Below W.heap.size W w') := Lib.hid (fun W hz ht => zput_any W2.heap.size W _ (ts ++ [nmT wLetter, nmT x.name, nmT wFrom, nmT x.frm]) ⟨#[116, 111]⟩ hz ht (by simp; omega) (by decide))
      have HPUT2 : Hid (∀ W u, IsToks W.heap.size W u (ts ++ [nmT wLetter, nmT x.name, nmT wFrom, nmT x.frm, nmT wTo]) → Calls Tryz.prog 52 #[u, .string y3] W fun e w' => (∃ v', e = .returned v' ∧ OwnToks W.heap.size w' v' ((ts ++ [nmT wLetter, nmT x.name, nmT wFrom, nmT x.frm, nmT wTo]) ++ [nmT x.to])) ∧ Below W.heap.size W w') := Lib.hid (fun W u ht => by rw [← HY3.out.1]; exact zput_any W.heap.size W u (ts ++ [nmT wLetter, nmT x.name, nmT wFrom, nmT x.frm, nmT wTo]) y3 (Nat.le_refl _) ht (by simp; omega) HY3.out.2)
      have HB2' : Hid (Below w.heap.size w W2.drew) := Lib.hid (HB2.out.trans ((Drew.refl _).drewN 1 |>.below _))
      have HX2' : Hid (CellsN W2.drew S #[.string y1, .string y2, .string y3, .string y4, .int .i64 x.after, .int .i64 x.by_, .int .i64 x.crowd, .int .i64 x.pay, .slice avx x.against.length cvx, .bool x.back, .int .i64 x.els]) := Lib.hid HX2.out
      have HT2' : Hid (IsToks W2.heap.size W2.drew (.slice a2 n2 c2) (ts ++ [nmT wLetter, nmT x.name, nmT wFrom, nmT x.frm])) := Lib.hid (HT2.out.below ((Drew.refl _).drewN 1 |>.below _) (Nat.le_refl _))
      obtain ⟨V, hV⟩ : ∃ V : List (Option Value), V = [some (.slice a2 n2 c2), none, some (.pointer (some ⟨S, 2, none⟩)), some (.string y3), none, none] := ⟨_, rfl⟩
      have HVV := Lib.hid hV
      clear hV
      refine wp_region_V [some 16, some 17, some 18, some 19, some 20, some 0] (fun L w' xs => ValsAt V L xs ∧ (Below w.heap.size w w' ∧ CellsN w' S #[.string y1, .string y2, .string y3, .string y4, .int .i64 x.after, .int .i64 x.by_, .int .i64 x.crowd, .int .i64 x.pay, .slice avx x.against.length cvx, .bool x.back, .int .i64 x.els] ∧ W2.heap.size ≤ w'.heap.size ∧ IsToks W2.heap.size w' (.slice a2 n2 c2) (ts ++ [nmT wLetter, nmT x.name, nmT wFrom, nmT x.frm]) ∧ (L 1 = true → IsToks w'.heap.size w' (xs 1) (ts ++ [nmT wLetter, nmT x.name, nmT wFrom, nmT x.frm, nmT wTo])) ∧ (L 4 = true → IsToks w'.heap.size w' (xs 4) (ts ++ [nmT wLetter, nmT x.name, nmT wFrom, nmT x.frm, nmT wTo, nmT x.to])) ∧ (L 5 = true → L 0 = true ∧ L 4 = true ∧ xs 5 = xs 4))) (by kernel_rfl) (by kernel_rfl) (by rfl) (by rfl) (by rfl) ?_ ?_ ?_
      focus
        exact fun xs => ⟨ValsAt.none _ _, HB2'.out, HX2'.out, Nat.le_refl _, HT2'.out, (fun h => by cases h), (fun h => by cases h), (fun h => by cases h)⟩
      focus
        refine ⟨?_, ?_, ?_, ?_, ?_, ?_, trivial⟩
        all_goals
          intro L a' w' xs hi hd hf hJ K hK
          obtain ⟨hv, hb, hx, hz, ht, h1, h4, h5⟩ := hJ
          have HF := Lib.hid hf
          have HVA := Lib.hid hv
          have HLI := Lib.hid hi
          clear hf hv hi
        focus
          clear hd
          obtain ⟨ρ, hρ⟩ : ∃ ρ, a'.eval = ρ := ⟨_, rfl⟩
          have hcst : ∀ v, ρ (.const v) = v := fun v => (congrFun hρ (.const v)).symm
          have h50 : L 5 = false := by
            cases hq : L 5 with
            | false => rfl
            | true => exact absurd (h5 hq).1 (by rw [HLI.out]; decide)
          have H50 := Lib.hid h50
          have l0 : ρ (.tmp 0) = .slice a2 n2 c2 := (congrFun hρ (.tmp 0)).symm.trans (HF.out.rest 5 0 rfl h50)
          clear h50
          rw [if_pos (by simp [Region.wanted])]
          unfold Oper.wp
          rw [hρ]
          clear hρ
          have Hhb := Lib.hid hb
          have Hhx := Lib.hid hx
          have Hht := Lib.hid ht
          have Hh1 := Lib.hid h1
          have Hh4 := Lib.hid h4
          have Hh5 := Lib.hid h5
          clear hb hx ht h1 h4 h5
          go_simp
          exact hK.out _ _ ⟨HVA.out.set (i := 0) (by rw [HVV.out]; rfl), Hhb.out, Hhx.out, hz, Hht.out, by simp only [upd_ne (L := L) (show (1 : Nat) ≠ 0 by decide), updV_ne (xs := xs) (show (1 : Nat) ≠ 0 by decide)]; exact Hh1.out, by simp only [upd_ne (L := L) (show (4 : Nat) ≠ 0 by decide), updV_ne (xs := xs) (show (4 : Nat) ≠ 0 by decide)]; exact Hh4.out, (fun hh => by simp only [upd_ne (L := L) (show (5 : Nat) ≠ 0 by decide)] at hh; rw [H50.out] at hh; cases hh)⟩
        focus
          obtain ⟨d0, _⟩ := hd
          obtain ⟨ρ, hρ⟩ : ∃ ρ, a'.eval = ρ := ⟨_, rfl⟩
          have hcst : ∀ v, ρ (.const v) = v := fun v => (congrFun hρ (.const v)).symm
          have hfun : ∀ k, ρ (.func k) = .func (.func k) #[] #[] := fun k => (congrFun hρ (.func k)).symm
          have v0 : ρ (.tmp 16) = .slice a2 n2 c2 := (congrFun hρ (.tmp 16)).symm.trans ((HF.out.ev 0 rfl d0).trans (HVA.out 0 _ (by rw [HVV.out]; rfl) d0))
          rw [if_pos (by simp [Region.wanted])]
          unfold Oper.wp
          rw [hρ]
          clear hρ
          have Hhb := Lib.hid hb
          have Hhx := Lib.hid hx
          have Hht := Lib.hid ht
          have Hh1 := Lib.hid h1
          have Hh4 := Lib.hid h4
          have Hh5 := Lib.hid h5
          clear hb hx ht h1 h4 h5
          go_simp
          go_at_call 52
          refine (HPUT1.out w' hz Hht.out).mono ?_
          rintro e w5 ⟨⟨v5, rfl, ho5⟩, hb5⟩
          have Hb5 := Lib.hid hb5
          have Ho5 := Lib.hid ho5
          clear hb5 ho5
          exact hK.out _ _ ⟨HVA.out.free (i := 1) (by rw [HVV.out]; rfl) _, Hhb.out.trans (Hb5.out.mono Hhb.out.size), Hhx.out.ext Hb5.out, Nat.le_trans hz Hb5.out.size, Hht.out.below Hb5.out hz, (fun _ => by rw [updV_self]; have := Ho5.out.isToks; simpa using this), (fun hh => by simp only [upd_ne (L := L) (show (4 : Nat) ≠ 1 by decide), updV_ne (xs := xs) (show (4 : Nat) ≠ 1 by decide)] at hh ⊢; exact ((Hh4.out hh).below Hb5.out (Nat.le_refl _)).mono Hb5.out.size), by simp only [upd_ne (L := L) (show (0 : Nat) ≠ 1 by decide), upd_ne (L := L) (show (4 : Nat) ≠ 1 by decide), upd_ne (L := L) (show (5 : Nat) ≠ 1 by decide), updV_ne (xs := xs) (show (0 : Nat) ≠ 1 by decide), updV_ne (xs := xs) (show (4 : Nat) ≠ 1 by decide), updV_ne (xs := xs) (show (5 : Nat) ≠ 1 by decide)]; exact Hh5.out⟩
        focus
          clear hd
          obtain ⟨ρ, hρ⟩ : ∃ ρ, a'.eval = ρ := ⟨_, rfl⟩
          have hcst : ∀ v, ρ (.const v) = v := fun v => (congrFun hρ (.const v)).symm
          have l3 : ρ (.tmp 3) = .pointer (some ⟨S, 0, none⟩) := (congrFun hρ (.tmp 3)).symm.trans (HF.out.lo 3 rfl)
          rw [if_pos (by simp [Region.wanted])]
          unfold Oper.wp
          rw [hρ]
          clear hρ
          have Hhb := Lib.hid hb
          have Hhx := Lib.hid hx
          have Hht := Lib.hid ht
          have Hh1 := Lib.hid h1
          have Hh4 := Lib.hid h4
          have Hh5 := Lib.hid h5
          clear hb hx ht h1 h4 h5
          go_simp
          exact hK.out _ _ ⟨HVA.out.set (i := 2) (by rw [HVV.out]; rfl), Hhb.out, Hhx.out, hz, Hht.out, by simp only [upd_ne (L := L) (show (1 : Nat) ≠ 2 by decide), updV_ne (xs := xs) (show (1 : Nat) ≠ 2 by decide)]; exact Hh1.out, by simp only [upd_ne (L := L) (show (4 : Nat) ≠ 2 by decide), updV_ne (xs := xs) (show (4 : Nat) ≠ 2 by decide)]; exact Hh4.out, by simp only [upd_ne (L := L) (show (0 : Nat) ≠ 2 by decide), upd_ne (L := L) (show (4 : Nat) ≠ 2 by decide), upd_ne (L := L) (show (5 : Nat) ≠ 2 by decide), updV_ne (xs := xs) (show (0 : Nat) ≠ 2 by decide), updV_ne (xs := xs) (show (4 : Nat) ≠ 2 by decide), updV_ne (xs := xs) (show (5 : Nat) ≠ 2 by decide)]; exact Hh5.out⟩
        focus
          obtain ⟨d2, _⟩ := hd
          obtain ⟨ρ, hρ⟩ : ∃ ρ, a'.eval = ρ := ⟨_, rfl⟩
          have hcst : ∀ v, ρ (.const v) = v := fun v => (congrFun hρ (.const v)).symm
          have v2 : ρ (.tmp 18) = .pointer (some ⟨S, 2, none⟩) := (congrFun hρ (.tmp 18)).symm.trans ((HF.out.ev 2 rfl d2).trans (HVA.out 2 _ (by rw [HVV.out]; rfl) d2))
          rw [if_pos (by simp [Region.wanted])]
          unfold Oper.wp
          rw [hρ]
          clear hρ
          have Hhb := Lib.hid hb
          have Hhx := Lib.hid hx
          have Hht := Lib.hid ht
          have Hh1 := Lib.hid h1
          have Hh4 := Lib.hid h4
          have Hh5 := Lib.hid h5
          clear hb hx ht h1 h4 h5
          have q0 := Hhx.out.cell 2
          simp at q0
          go_simp
          exact hK.out _ _ ⟨HVA.out.set (i := 3) (by rw [HVV.out]; rfl), Hhb.out, Hhx.out, hz, Hht.out, by simp only [upd_ne (L := L) (show (1 : Nat) ≠ 3 by decide), updV_ne (xs := xs) (show (1 : Nat) ≠ 3 by decide)]; exact Hh1.out, by simp only [upd_ne (L := L) (show (4 : Nat) ≠ 3 by decide), updV_ne (xs := xs) (show (4 : Nat) ≠ 3 by decide)]; exact Hh4.out, by simp only [upd_ne (L := L) (show (0 : Nat) ≠ 3 by decide), upd_ne (L := L) (show (4 : Nat) ≠ 3 by decide), upd_ne (L := L) (show (5 : Nat) ≠ 3 by decide), updV_ne (xs := xs) (show (0 : Nat) ≠ 3 by decide), updV_ne (xs := xs) (show (4 : Nat) ≠ 3 by decide), updV_ne (xs := xs) (show (5 : Nat) ≠ 3 by decide)]; exact Hh5.out⟩
        focus
          obtain ⟨d1, d3, _, _⟩ := hd
          obtain ⟨ρ, hρ⟩ : ∃ ρ, a'.eval = ρ := ⟨_, rfl⟩
          have hcst : ∀ v, ρ (.const v) = v := fun v => (congrFun hρ (.const v)).symm
          have hfun : ∀ k, ρ (.func k) = .func (.func k) #[] #[] := fun k => (congrFun hρ (.func k)).symm
          have v1 : ρ (.tmp 17) = xs 1 := (congrFun hρ (.tmp 17)).symm.trans (HF.out.ev 1 rfl d1)
          have v3 : ρ (.tmp 19) = .string y3 := (congrFun hρ (.tmp 19)).symm.trans ((HF.out.ev 3 rfl d3).trans (HVA.out 3 _ (by rw [HVV.out]; rfl) d3))
          rw [if_pos (by simp [Region.wanted])]
          unfold Oper.wp
          rw [hρ]
          clear hρ
          have Hhb := Lib.hid hb
          have Hhx := Lib.hid hx
          have Hht := Lib.hid ht
          have Hh1 := Lib.hid h1
          have Hh4 := Lib.hid h4
          have Hh5 := Lib.hid h5
          clear hb hx ht h1 h4 h5
          have H1 := Lib.hid (Hh1.out d1)
          obtain ⟨aq, cq, hxq, _⟩ := H1.out.form
          obtain ⟨nq, hnq⟩ : ∃ q, (ts ++ [nmT wLetter, nmT x.name, nmT wFrom, nmT x.frm, nmT wTo]).length = q := ⟨_, rfl⟩
          rw [hnq] at hxq
          clear hnq
          rw [hxq] at v1
          have HXQ := Lib.hid hxq
          clear hxq
          go_simp
          go_at_call 52
          refine (HPUT2.out w' _ (by rw [← HXQ.out]; exact H1.out)).mono ?_
          rintro e w5 ⟨⟨v5, rfl, ho5⟩, hb5⟩
          have Hb5 := Lib.hid hb5
          have Ho5 := Lib.hid ho5
          clear hb5 ho5
          exact hK.out _ _ ⟨HVA.out.free (i := 4) (by rw [HVV.out]; rfl) _, Hhb.out.trans (Hb5.out.mono Hhb.out.size), Hhx.out.ext Hb5.out, Nat.le_trans hz Hb5.out.size, Hht.out.below Hb5.out hz, (fun hh => by simp only [upd_ne (L := L) (show (1 : Nat) ≠ 4 by decide), updV_ne (xs := xs) (show (1 : Nat) ≠ 4 by decide)] at hh ⊢; exact ((Hh1.out hh).below Hb5.out (Nat.le_refl _)).mono Hb5.out.size), (fun _ => by rw [updV_self]; have := Ho5.out.isToks; simpa using this), (fun hh => by simp only [upd_ne (L := L) (show (5 : Nat) ≠ 4 by decide)] at hh; have := (Hh5.out hh).2.1; rw [HLI.out] at this; cases this)⟩
        focus
          obtain ⟨d4, _, d0, d1, d2, d3, _, _⟩ := hd
          obtain ⟨ρ, hρ⟩ : ∃ ρ, a'.eval = ρ := ⟨_, rfl⟩
          have hcst : ∀ v, ρ (.const v) = v := fun v => (congrFun hρ (.const v)).symm
          have v4 : ρ (.tmp 20) = xs 4 := (congrFun hρ (.tmp 20)).symm.trans (HF.out.ev 4 rfl d4)
          rw [if_pos (by simp [Region.wanted])]
          unfold Oper.wp
          rw [hρ]
          clear hρ
          have Hhb := Lib.hid hb
          have Hhx := Lib.hid hx
          have Hht := Lib.hid ht
          have Hh1 := Lib.hid h1
          have Hh4 := Lib.hid h4
          have Hh5 := Lib.hid h5
          clear hb hx ht h1 h4 h5
          obtain ⟨aq, cq, hxq, _⟩ := (Hh4.out d4).form
          obtain ⟨nq, hnq⟩ : ∃ q, (ts ++ [nmT wLetter, nmT x.name, nmT wFrom, nmT x.frm, nmT wTo, nmT x.to]).length = q := ⟨_, rfl⟩
          rw [hnq] at hxq
          clear hnq
          rw [hxq] at v4
          have HXQ := Lib.hid hxq
          clear hxq
          go_simp
          exact hK.out _ _ ⟨HVA.out.free (i := 5) (by rw [HVV.out]; rfl) _, Hhb.out, Hhx.out, hz, Hht.out, by simp only [upd_ne (L := L) (show (1 : Nat) ≠ 5 by decide), updV_ne (xs := xs) (show (1 : Nat) ≠ 5 by decide)]; exact Hh1.out, by simp only [upd_ne (L := L) (show (4 : Nat) ≠ 5 by decide), updV_ne (xs := xs) (show (4 : Nat) ≠ 5 by decide)]; exact Hh4.out, (fun _ => ⟨(upd_ne (L := L) (show (0 : Nat) ≠ 5 by decide)).trans d0, (upd_ne (L := L) (show (4 : Nat) ≠ 5 by decide)).trans d4, by rw [updV_self, updV_ne (xs := xs) (show (4 : Nat) ≠ 5 by decide), HXQ.out]⟩)⟩
      focus
        intro L w' xs hL hJ
        obtain ⟨hv, hb, hx, hz, ht, h1, h4, h5⟩ := hJ
        have e0 : xs 0 = .slice a2 n2 c2 := hv 0 _ (by rw [HVV.out]; rfl) (hL 0 (by decide))
        have e2 : xs 2 = .pointer (some ⟨S, 2, none⟩) := hv 2 _ (by rw [HVV.out]; rfl) (hL 2 (by decide))
        have e3 : xs 3 = .string y3 := hv 3 _ (by rw [HVV.out]; rfl) (hL 3 (by decide))
        simp only [putGo, Act.put, List.setIfInBounds_toArray, List.set_cons_zero, List.set_cons_succ, e0, e2, e3]
        clear hv e0 e2 e3
        obtain ⟨_, h54, h55⟩ := h5 (hL 5 (by decide))
        have HT3 := Lib.hid (h4 (hL 4 (by decide)))
        obtain ⟨a3, c3, hx4, _⟩ := HT3.out.form
        obtain ⟨n3, hn3⟩ : ∃ q, (ts ++ [nmT wLetter, nmT x.name, nmT wFrom, nmT x.frm, nmT wTo, nmT x.to]).length = q := ⟨_, rfl⟩
        rw [hn3] at hx4
        have hx1 : ∃ z, xs 1 = z := ⟨_, rfl⟩
        obtain ⟨z1, hz1⟩ := hx1
        rw [h55, hx4, hz1]
        rw [hx4] at HT3
        have HB3 := Lib.hid hb
        have HX3 := Lib.hid hx
        obtain ⟨W3, hW3⟩ : ∃ W, w' = W := ⟨_, rfl⟩
        rw [hW3] at HT3 HB3 HX3 ⊢
        clear hb hx hz ht h1 h4 h5 h54 h55 hx4 hz1 hL HPUT1 HPUT2 HVV
        go_upto_region 4 with fail
        have HPUT1 : Hid (∀ W, W3.heap.size ≤ W.heap.size → IsToks W3.heap.size W (.slice a3 n3 c3) (ts ++ [nmT wLetter, nmT x.name, nmT wFrom, nmT x.frm, nmT wTo, nmT x.to]) → Calls Tryz.prog 52 #[.slice a3 n3 c3, .string ⟨#[99, 108, 97, 115, 115]⟩] W fun e w' => (∃ v', e = .returned v' ∧ OwnToks W.heap.size w' v' ((ts ++ [nmT wLetter, nmT x.name, nmT wFrom, nmT x.frm, nmT wTo, nmT x.to]) ++ [nmT wClass])) ∧ Below W.heap.size W w') := Lib.hid (fun W hz ht => zput_any W3.heap.size W _ (ts ++ [nmT wLetter, nmT x.name, nmT wFrom, nmT x.frm, nmT wTo, nmT x.to]) ⟨#[99, 108, 97, 115, 115]⟩ hz ht (by simp; omega) (by decide))
        have HPUT2 : Hid (∀ W u, IsToks W.heap.size W u (ts ++ [nmT wLetter, nmT x.name, nmT wFrom, nmT x.frm, nmT wTo, nmT x.to, nmT wClass]) → Calls Tryz.prog 52 #[u, .string y4] W fun e w' => (∃ v', e = .returned v' ∧ OwnToks W.heap.size w' v' ((ts ++ [nmT wLetter, nmT x.name, nmT wFrom, nmT x.frm, nmT wTo, nmT x.to, nmT wClass]) ++ [nmT x.cls])) ∧ Below W.heap.size W w') := Lib.hid (fun W u ht => by rw [← HY4.out.1]; exact zput_any W.heap.size W u (ts ++ [nmT wLetter, nmT x.name, nmT wFrom, nmT x.frm, nmT wTo, nmT x.to, nmT wClass]) y4 (Nat.le_refl _) ht (by simp; omega) HY4.out.2)
        have HB3' : Hid (Below w.heap.size w W3.drew) := Lib.hid (HB3.out.trans ((Drew.refl _).drewN 1 |>.below _))
        have HX3' : Hid (CellsN W3.drew S #[.string y1, .string y2, .string y3, .string y4, .int .i64 x.after, .int .i64 x.by_, .int .i64 x.crowd, .int .i64 x.pay, .slice avx x.against.length cvx, .bool x.back, .int .i64 x.els]) := Lib.hid HX3.out
        have HT3' : Hid (IsToks W3.heap.size W3.drew (.slice a3 n3 c3) (ts ++ [nmT wLetter, nmT x.name, nmT wFrom, nmT x.frm, nmT wTo, nmT x.to])) := Lib.hid (HT3.out.below ((Drew.refl _).drewN 1 |>.below _) (Nat.le_refl _))
        obtain ⟨V, hV⟩ : ∃ V : List (Option Value), V = [some (.slice a3 n3 c3), none, some (.pointer (some ⟨S, 3, none⟩)), some (.string y4), none, none] := ⟨_, rfl⟩
        have HVV := Lib.hid hV
        clear hV
        refine wp_region_V [some 21, some 22, some 23, some 24, some 25, some 0] (fun L w' xs => ValsAt V L xs ∧ (Below w.heap.size w w' ∧ CellsN w' S #[.string y1, .string y2, .string y3, .string y4, .int .i64 x.after, .int .i64 x.by_, .int .i64 x.crowd, .int .i64 x.pay, .slice avx x.against.length cvx, .bool x.back, .int .i64 x.els] ∧ W3.heap.size ≤ w'.heap.size ∧ IsToks W3.heap.size w' (.slice a3 n3 c3) (ts ++ [nmT wLetter, nmT x.name, nmT wFrom, nmT x.frm, nmT wTo, nmT x.to]) ∧ (L 1 = true → IsToks w'.heap.size w' (xs 1) (ts ++ [nmT wLetter, nmT x.name, nmT wFrom, nmT x.frm, nmT wTo, nmT x.to, nmT wClass])) ∧ (L 4 = true → IsToks w'.heap.size w' (xs 4) (ts ++ [nmT wLetter, nmT x.name, nmT wFrom, nmT x.frm, nmT wTo, nmT x.to, nmT wClass, nmT x.cls])) ∧ (L 5 = true → L 0 = true ∧ L 4 = true ∧ xs 5 = xs 4))) (by kernel_rfl) (by kernel_rfl) (by rfl) (by rfl) (by rfl) ?_ ?_ ?_
        focus
          exact fun xs => ⟨ValsAt.none _ _, HB3'.out, HX3'.out, Nat.le_refl _, HT3'.out, (fun h => by cases h), (fun h => by cases h), (fun h => by cases h)⟩
        focus
          refine ⟨?_, ?_, ?_, ?_, ?_, ?_, trivial⟩
          all_goals
            intro L a' w' xs hi hd hf hJ K hK
            obtain ⟨hv, hb, hx, hz, ht, h1, h4, h5⟩ := hJ
            have HF := Lib.hid hf
            have HVA := Lib.hid hv
            have HLI := Lib.hid hi
            clear hf hv hi
          focus
            clear hd
            obtain ⟨ρ, hρ⟩ : ∃ ρ, a'.eval = ρ := ⟨_, rfl⟩
            have hcst : ∀ v, ρ (.const v) = v := fun v => (congrFun hρ (.const v)).symm
            have h50 : L 5 = false := by
              cases hq : L 5 with
              | false => rfl
              | true => exact absurd (h5 hq).1 (by rw [HLI.out]; decide)
            have H50 := Lib.hid h50
            have l0 : ρ (.tmp 0) = .slice a3 n3 c3 := (congrFun hρ (.tmp 0)).symm.trans (HF.out.rest 5 0 rfl h50)
            clear h50
            rw [if_pos (by simp [Region.wanted])]
            unfold Oper.wp
            rw [hρ]
            clear hρ
            have Hhb := Lib.hid hb
            have Hhx := Lib.hid hx
            have Hht := Lib.hid ht
            have Hh1 := Lib.hid h1
            have Hh4 := Lib.hid h4
            have Hh5 := Lib.hid h5
            clear hb hx ht h1 h4 h5
            go_simp
            exact hK.out _ _ ⟨HVA.out.set (i := 0) (by rw [HVV.out]; rfl), Hhb.out, Hhx.out, hz, Hht.out, by simp only [upd_ne (L := L) (show (1 : Nat) ≠ 0 by decide), updV_ne (xs := xs) (show (1 : Nat) ≠ 0 by decide)]; exact Hh1.out, by simp only [upd_ne (L := L) (show (4 : Nat) ≠ 0 by decide), updV_ne (xs := xs) (show (4 : Nat) ≠ 0 by decide)]; exact Hh4.out, (fun hh => by simp only [upd_ne (L := L) (show (5 : Nat) ≠ 0 by decide)] at hh; rw [H50.out] at hh; cases hh)⟩
          focus
            obtain ⟨d0, _⟩ := hd
            obtain ⟨ρ, hρ⟩ : ∃ ρ, a'.eval = ρ := ⟨_, rfl⟩
            have hcst : ∀ v, ρ (.const v) = v := fun v => (congrFun hρ (.const v)).symm
            have hfun : ∀ k, ρ (.func k) = .func (.func k) #[] #[] := fun k => (congrFun hρ (.func k)).symm
            have v0 : ρ (.tmp 21) = .slice a3 n3 c3 := (congrFun hρ (.tmp 21)).symm.trans ((HF.out.ev 0 rfl d0).trans (HVA.out 0 _ (by rw [HVV.out]; rfl) d0))
            rw [if_pos (by simp [Region.wanted])]
            unfold Oper.wp
            rw [hρ]
            clear hρ
            have Hhb := Lib.hid hb
            have Hhx := Lib.hid hx
            have Hht := Lib.hid ht
            have Hh1 := Lib.hid h1
            have Hh4 := Lib.hid h4
            have Hh5 := Lib.hid h5
            clear hb hx ht h1 h4 h5
            go_simp
            go_at_call 52
            refine (HPUT1.out w' hz Hht.out).mono ?_
            rintro e w5 ⟨⟨v5, rfl, ho5⟩, hb5⟩
            have Hb5 := Lib.hid hb5
            have Ho5 := Lib.hid ho5
            clear hb5 ho5
            exact hK.out _ _ ⟨HVA.out.free (i := 1) (by rw [HVV.out]; rfl) _, Hhb.out.trans (Hb5.out.mono Hhb.out.size), Hhx.out.ext Hb5.out, Nat.le_trans hz Hb5.out.size, Hht.out.below Hb5.out hz, (fun _ => by rw [updV_self]; have := Ho5.out.isToks; simpa using this), (fun hh => by simp only [upd_ne (L := L) (show (4 : Nat) ≠ 1 by decide), updV_ne (xs := xs) (show (4 : Nat) ≠ 1 by decide)] at hh ⊢; exact ((Hh4.out hh).below Hb5.out (Nat.le_refl _)).mono Hb5.out.size), by simp only [upd_ne (L := L) (show (0 : Nat) ≠ 1 by decide), upd_ne (L := L) (show (4 : Nat) ≠ 1 by decide), upd_ne (L := L) (show (5 : Nat) ≠ 1 by decide), updV_ne (xs := xs) (show (0 : Nat) ≠ 1 by decide), updV_ne (xs := xs) (show (4 : Nat) ≠ 1 by decide), updV_ne (xs := xs) (show (5 : Nat) ≠ 1 by decide)]; exact Hh5.out⟩
          focus
            clear hd
            obtain ⟨ρ, hρ⟩ : ∃ ρ, a'.eval = ρ := ⟨_, rfl⟩
            have hcst : ∀ v, ρ (.const v) = v := fun v => (congrFun hρ (.const v)).symm
            have l3 : ρ (.tmp 3) = .pointer (some ⟨S, 0, none⟩) := (congrFun hρ (.tmp 3)).symm.trans (HF.out.lo 3 rfl)
            rw [if_pos (by simp [Region.wanted])]
            unfold Oper.wp
            rw [hρ]
            clear hρ
            have Hhb := Lib.hid hb
            have Hhx := Lib.hid hx
            have Hht := Lib.hid ht
            have Hh1 := Lib.hid h1
            have Hh4 := Lib.hid h4
            have Hh5 := Lib.hid h5
            clear hb hx ht h1 h4 h5
            go_simp
            exact hK.out _ _ ⟨HVA.out.set (i := 2) (by rw [HVV.out]; rfl), Hhb.out, Hhx.out, hz, Hht.out, by simp only [upd_ne (L := L) (show (1 : Nat) ≠ 2 by decide), updV_ne (xs := xs) (show (1 : Nat) ≠ 2 by decide)]; exact Hh1.out, by simp only [upd_ne (L := L) (show (4 : Nat) ≠ 2 by decide), updV_ne (xs := xs) (show (4 : Nat) ≠ 2 by decide)]; exact Hh4.out, by simp only [upd_ne (L := L) (show (0 : Nat) ≠ 2 by decide), upd_ne (L := L) (show (4 : Nat) ≠ 2 by decide), upd_ne (L := L) (show (5 : Nat) ≠ 2 by decide), updV_ne (xs := xs) (show (0 : Nat) ≠ 2 by decide), updV_ne (xs := xs) (show (4 : Nat) ≠ 2 by decide), updV_ne (xs := xs) (show (5 : Nat) ≠ 2 by decide)]; exact Hh5.out⟩
          focus
            obtain ⟨d2, _⟩ := hd
            obtain ⟨ρ, hρ⟩ : ∃ ρ, a'.eval = ρ := ⟨_, rfl⟩
            have hcst : ∀ v, ρ (.const v) = v := fun v => (congrFun hρ (.const v)).symm
            have v2 : ρ (.tmp 23) = .pointer (some ⟨S, 3, none⟩) := (congrFun hρ (.tmp 23)).symm.trans ((HF.out.ev 2 rfl d2).trans (HVA.out 2 _ (by rw [HVV.out]; rfl) d2))
            rw [if_pos (by simp [Region.wanted])]
            unfold Oper.wp
            rw [hρ]
            clear hρ
            have Hhb := Lib.hid hb
            have Hhx := Lib.hid hx
            have Hht := Lib.hid ht
            have Hh1 := Lib.hid h1
            have Hh4 := Lib.hid h4
            have Hh5 := Lib.hid h5
            clear hb hx ht h1 h4 h5
            have q0 := Hhx.out.cell 3
            simp at q0
            go_simp
            exact hK.out _ _ ⟨HVA.out.set (i := 3) (by rw [HVV.out]; rfl), Hhb.out, Hhx.out, hz, Hht.out, by simp only [upd_ne (L := L) (show (1 : Nat) ≠ 3 by decide), updV_ne (xs := xs) (show (1 : Nat) ≠ 3 by decide)]; exact Hh1.out, by simp only [upd_ne (L := L) (show (4 : Nat) ≠ 3 by decide), updV_ne (xs := xs) (show (4 : Nat) ≠ 3 by decide)]; exact Hh4.out, by simp only [upd_ne (L := L) (show (0 : Nat) ≠ 3 by decide), upd_ne (L := L) (show (4 : Nat) ≠ 3 by decide), upd_ne (L := L) (show (5 : Nat) ≠ 3 by decide), updV_ne (xs := xs) (show (0 : Nat) ≠ 3 by decide), updV_ne (xs := xs) (show (4 : Nat) ≠ 3 by decide), updV_ne (xs := xs) (show (5 : Nat) ≠ 3 by decide)]; exact Hh5.out⟩
          focus
            obtain ⟨d1, d3, _, _⟩ := hd
            obtain ⟨ρ, hρ⟩ : ∃ ρ, a'.eval = ρ := ⟨_, rfl⟩
            have hcst : ∀ v, ρ (.const v) = v := fun v => (congrFun hρ (.const v)).symm
            have hfun : ∀ k, ρ (.func k) = .func (.func k) #[] #[] := fun k => (congrFun hρ (.func k)).symm
            have v1 : ρ (.tmp 22) = xs 1 := (congrFun hρ (.tmp 22)).symm.trans (HF.out.ev 1 rfl d1)
            have v3 : ρ (.tmp 24) = .string y4 := (congrFun hρ (.tmp 24)).symm.trans ((HF.out.ev 3 rfl d3).trans (HVA.out 3 _ (by rw [HVV.out]; rfl) d3))
            rw [if_pos (by simp [Region.wanted])]
            unfold Oper.wp
            rw [hρ]
            clear hρ
            have Hhb := Lib.hid hb
            have Hhx := Lib.hid hx
            have Hht := Lib.hid ht
            have Hh1 := Lib.hid h1
            have Hh4 := Lib.hid h4
            have Hh5 := Lib.hid h5
            clear hb hx ht h1 h4 h5
            have H1 := Lib.hid (Hh1.out d1)
            obtain ⟨aq, cq, hxq, _⟩ := H1.out.form
            obtain ⟨nq, hnq⟩ : ∃ q, (ts ++ [nmT wLetter, nmT x.name, nmT wFrom, nmT x.frm, nmT wTo, nmT x.to, nmT wClass]).length = q := ⟨_, rfl⟩
            rw [hnq] at hxq
            clear hnq
            rw [hxq] at v1
            have HXQ := Lib.hid hxq
            clear hxq
            go_simp
            go_at_call 52
            refine (HPUT2.out w' _ (by rw [← HXQ.out]; exact H1.out)).mono ?_
            rintro e w5 ⟨⟨v5, rfl, ho5⟩, hb5⟩
            have Hb5 := Lib.hid hb5
            have Ho5 := Lib.hid ho5
            clear hb5 ho5
            exact hK.out _ _ ⟨HVA.out.free (i := 4) (by rw [HVV.out]; rfl) _, Hhb.out.trans (Hb5.out.mono Hhb.out.size), Hhx.out.ext Hb5.out, Nat.le_trans hz Hb5.out.size, Hht.out.below Hb5.out hz, (fun hh => by simp only [upd_ne (L := L) (show (1 : Nat) ≠ 4 by decide), updV_ne (xs := xs) (show (1 : Nat) ≠ 4 by decide)] at hh ⊢; exact ((Hh1.out hh).below Hb5.out (Nat.le_refl _)).mono Hb5.out.size), (fun _ => by rw [updV_self]; have := Ho5.out.isToks; simpa using this), (fun hh => by simp only [upd_ne (L := L) (show (5 : Nat) ≠ 4 by decide)] at hh; have := (Hh5.out hh).2.1; rw [HLI.out] at this; cases this)⟩
          focus
            obtain ⟨d4, _, d0, d1, d2, d3, _, _⟩ := hd
            obtain ⟨ρ, hρ⟩ : ∃ ρ, a'.eval = ρ := ⟨_, rfl⟩
            have hcst : ∀ v, ρ (.const v) = v := fun v => (congrFun hρ (.const v)).symm
            have v4 : ρ (.tmp 25) = xs 4 := (congrFun hρ (.tmp 25)).symm.trans (HF.out.ev 4 rfl d4)
            rw [if_pos (by simp [Region.wanted])]
            unfold Oper.wp
            rw [hρ]
            clear hρ
            have Hhb := Lib.hid hb
            have Hhx := Lib.hid hx
            have Hht := Lib.hid ht
            have Hh1 := Lib.hid h1
            have Hh4 := Lib.hid h4
            have Hh5 := Lib.hid h5
            clear hb hx ht h1 h4 h5
            obtain ⟨aq, cq, hxq, _⟩ := (Hh4.out d4).form
            obtain ⟨nq, hnq⟩ : ∃ q, (ts ++ [nmT wLetter, nmT x.name, nmT wFrom, nmT x.frm, nmT wTo, nmT x.to, nmT wClass, nmT x.cls]).length = q := ⟨_, rfl⟩
            rw [hnq] at hxq
            clear hnq
            rw [hxq] at v4
            have HXQ := Lib.hid hxq
            clear hxq
            go_simp
            exact hK.out _ _ ⟨HVA.out.free (i := 5) (by rw [HVV.out]; rfl) _, Hhb.out, Hhx.out, hz, Hht.out, by simp only [upd_ne (L := L) (show (1 : Nat) ≠ 5 by decide), updV_ne (xs := xs) (show (1 : Nat) ≠ 5 by decide)]; exact Hh1.out, by simp only [upd_ne (L := L) (show (4 : Nat) ≠ 5 by decide), updV_ne (xs := xs) (show (4 : Nat) ≠ 5 by decide)]; exact Hh4.out, (fun _ => ⟨(upd_ne (L := L) (show (0 : Nat) ≠ 5 by decide)).trans d0, (upd_ne (L := L) (show (4 : Nat) ≠ 5 by decide)).trans d4, by rw [updV_self, updV_ne (xs := xs) (show (4 : Nat) ≠ 5 by decide), HXQ.out]⟩)⟩
        focus
          intro L w' xs hL hJ
          obtain ⟨hv, hb, hx, hz, ht, h1, h4, h5⟩ := hJ
          have e0 : xs 0 = .slice a3 n3 c3 := hv 0 _ (by rw [HVV.out]; rfl) (hL 0 (by decide))
          have e2 : xs 2 = .pointer (some ⟨S, 3, none⟩) := hv 2 _ (by rw [HVV.out]; rfl) (hL 2 (by decide))
          have e3 : xs 3 = .string y4 := hv 3 _ (by rw [HVV.out]; rfl) (hL 3 (by decide))
          simp only [putGo, Act.put, List.setIfInBounds_toArray, List.set_cons_zero, List.set_cons_succ, e0, e2, e3]
          clear hv e0 e2 e3
          obtain ⟨_, h54, h55⟩ := h5 (hL 5 (by decide))
          have HT4 := Lib.hid (h4 (hL 4 (by decide)))
          obtain ⟨a4, c4, hx4, _⟩ := HT4.out.form
          obtain ⟨n4, hn4⟩ : ∃ q, (ts ++ [nmT wLetter, nmT x.name, nmT wFrom, nmT x.frm, nmT wTo, nmT x.to, nmT wClass, nmT x.cls]).length = q := ⟨_, rfl⟩
          rw [hn4] at hx4
          have hx1 : ∃ z, xs 1 = z := ⟨_, rfl⟩
          obtain ⟨z1, hz1⟩ := hx1
          rw [h55, hx4, hz1]
          rw [hx4] at HT4
          have HB4 := Lib.hid hb
          have HX4 := Lib.hid hx
          obtain ⟨W4, hW4⟩ : ∃ W, w' = W := ⟨_, rfl⟩
          rw [hW4] at HT4 HB4 HX4 ⊢
          clear hb hx hz ht h1 h4 h5 h54 h55 hx4 hz1 hL HPUT1 HPUT2 HVV
          go_upto_region 5 with fail
          have HCL : Hid (Calls Tryz.prog 53 #[.slice a4 n4 c4, .string ⟨#[97, 102, 116, 101, 114]⟩, .int .i64 x.after] W4 fun e w' => (∃ v', e = .returned v' ∧ OwnToks W4.heap.size w' v' ((ts ++ [nmT wLetter, nmT x.name, nmT wFrom, nmT x.frm, nmT wTo, nmT x.to, nmT wClass, nmT x.cls]) ++ [nmT wAfter, nuT x.after])) ∧ Below W4.heap.size W4 w') := Lib.hid (zdigits_any W4.heap.size W4 _ (ts ++ [nmT wLetter, nmT x.name, nmT wFrom, nmT x.frm, nmT wTo, nmT x.to, nmT wClass, nmT x.cls]) ⟨#[97, 102, 116, 101, 114]⟩ x.after (Nat.le_refl _) HT4.out (by simp; omega) (by decide) HI.out.1)
          have q0 := HX4.out.cell 4
          simp at q0
          go_wp2_with fail
          refine HCL.out.mono ?_
          clear HCL q0
          rintro e W5 ⟨⟨v', rfl, ho⟩, hb⟩
          have HT5 : Hid (IsToks W5.heap.size W5 v' (ts ++ [nmT wLetter, nmT x.name, nmT wFrom, nmT x.frm, nmT wTo, nmT x.to, nmT wClass, nmT x.cls, nmT wAfter, nuT x.after])) := Lib.hid (by have := ho.isToks; simpa using this)
          have HX5 := Lib.hid (HX4.out.ext hb)
          have HB5 : Hid (Below w.heap.size w W5) := Lib.hid (HB4.out.trans (hb.mono HB4.out.size))
          have HO5 : Hid (OwnToks W4.heap.size W5 v' (ts ++ [nmT wLetter, nmT x.name, nmT wFrom, nmT x.frm, nmT wTo, nmT x.to, nmT wClass, nmT x.cls, nmT wAfter, nuT x.after])) := Lib.hid (by simpa using ho)
          obtain ⟨a5, n5, c5, hvv⟩ := ho.form'
          subst hvv
          clear ho hb
          go_upto_region 6 with fail
          have HCL : Hid (Calls Tryz.prog 53 #[.slice a5 n5 c5, .string ⟨#[98, 121]⟩, .int .i64 x.by_] W5 fun e w' => (∃ v', e = .returned v' ∧ OwnToks W5.heap.size w' v' ((ts ++ [nmT wLetter, nmT x.name, nmT wFrom, nmT x.frm, nmT wTo, nmT x.to, nmT wClass, nmT x.cls, nmT wAfter, nuT x.after]) ++ [nmT wBy, nuT x.by_])) ∧ Below W5.heap.size W5 w') := Lib.hid (zdigits_any W5.heap.size W5 _ (ts ++ [nmT wLetter, nmT x.name, nmT wFrom, nmT x.frm, nmT wTo, nmT x.to, nmT wClass, nmT x.cls, nmT wAfter, nuT x.after]) ⟨#[98, 121]⟩ x.by_ (Nat.le_refl _) HT5.out (by simp; omega) (by decide) HI.out.2.1)
          have q0 := HX5.out.cell 5
          simp at q0
          go_wp2_with fail
          refine HCL.out.mono ?_
          clear HCL q0
          rintro e W6 ⟨⟨v', rfl, ho⟩, hb⟩
          have HT6 : Hid (IsToks W6.heap.size W6 v' (ts ++ [nmT wLetter, nmT x.name, nmT wFrom, nmT x.frm, nmT wTo, nmT x.to, nmT wClass, nmT x.cls, nmT wAfter, nuT x.after, nmT wBy, nuT x.by_])) := Lib.hid (by have := ho.isToks; simpa using this)
          have HX6 := Lib.hid (HX5.out.ext hb)
          have HB6 : Hid (Below w.heap.size w W6) := Lib.hid (HB5.out.trans (hb.mono HB5.out.size))
          have HO6 : Hid (OwnToks W5.heap.size W6 v' (ts ++ [nmT wLetter, nmT x.name, nmT wFrom, nmT x.frm, nmT wTo, nmT x.to, nmT wClass, nmT x.cls, nmT wAfter, nuT x.after, nmT wBy, nuT x.by_])) := Lib.hid (by simpa using ho)
          obtain ⟨a6, n6, c6, hvv⟩ := ho.form'
          subst hvv
          clear ho hb
          go_upto_region 7 with fail
          have HCL : Hid (Calls Tryz.prog 53 #[.slice a6 n6 c6, .string ⟨#[99, 114, 111, 119, 100]⟩, .int .i64 x.crowd] W6 fun e w' => (∃ v', e = .returned v' ∧ OwnToks W6.heap.size w' v' ((ts ++ [nmT wLetter, nmT x.name, nmT wFrom, nmT x.frm, nmT wTo, nmT x.to, nmT wClass, nmT x.cls, nmT wAfter, nuT x.after, nmT wBy, nuT x.by_]) ++ [nmT wCrowd, nuT x.crowd])) ∧ Below W6.heap.size W6 w') := Lib.hid (zdigits_any W6.heap.size W6 _ (ts ++ [nmT wLetter, nmT x.name, nmT wFrom, nmT x.frm, nmT wTo, nmT x.to, nmT wClass, nmT x.cls, nmT wAfter, nuT x.after, nmT wBy, nuT x.by_]) ⟨#[99, 114, 111, 119, 100]⟩ x.crowd (Nat.le_refl _) HT6.out (by simp; omega) (by decide) HI.out.2.2.1)
          have q0 := HX6.out.cell 6
          simp at q0
          go_wp2_with fail
          refine HCL.out.mono ?_
          clear HCL q0
          rintro e W7 ⟨⟨v', rfl, ho⟩, hb⟩
          have HT7 : Hid (IsToks W7.heap.size W7 v' (ts ++ [nmT wLetter, nmT x.name, nmT wFrom, nmT x.frm, nmT wTo, nmT x.to, nmT wClass, nmT x.cls, nmT wAfter, nuT x.after, nmT wBy, nuT x.by_, nmT wCrowd, nuT x.crowd])) := Lib.hid (by have := ho.isToks; simpa using this)
          have HX7 := Lib.hid (HX6.out.ext hb)
          have HB7 : Hid (Below w.heap.size w W7) := Lib.hid (HB6.out.trans (hb.mono HB6.out.size))
          have HO7 : Hid (OwnToks W6.heap.size W7 v' (ts ++ [nmT wLetter, nmT x.name, nmT wFrom, nmT x.frm, nmT wTo, nmT x.to, nmT wClass, nmT x.cls, nmT wAfter, nuT x.after, nmT wBy, nuT x.by_, nmT wCrowd, nuT x.crowd])) := Lib.hid (by simpa using ho)
          obtain ⟨a7, n7, c7, hvv⟩ := ho.form'
          subst hvv
          clear ho hb
          have hag2 : x.against.length ≤ 1000 := hag
          go_wp2
          go_loopw [0, 5] (fun tv iv wr => ∃ k : Nat, k ≤ x.against.length ∧ iv = .int .i64 k ∧ IsToks wr.heap.size wr tv (ts ++ ([nmT wLetter, nmT x.name, nmT wFrom, nmT x.frm, nmT wTo, nmT x.to, nmT wClass, nmT x.cls, nmT wAfter, nuT x.after, nmT wBy, nuT x.by_, nmT wCrowd, nuT x.crowd] ++ agT (x.against.take k))) ∧ CellsN wr S #[.string y1, .string y2, .string y3, .string y4, .int .i64 x.after, .int .i64 x.by_, .int .i64 x.crowd, .int .i64 x.pay, .slice avx x.against.length cvx, .bool x.back, .int .i64 x.els] ∧ Below w.heap.size w wr) (fun tv iv _ => x.against.length - (intOf iv).toNat)
          case atStart => exact ⟨0, by omega, rfl, by have := HT7.out; simpa [agT] using this, HX7.out, HB7.out⟩
          case round =>
            obtain ⟨k, hk, rfl, ht, hx, hb⟩ := hrel
            obtain ⟨wq, rfl⟩ : ∃ W, W = wr := ⟨_, rfl⟩
            have HTq := Lib.hid ht
            have HXq := Lib.hid hx
            have HBq := Lib.hid hb
            have HLq : Hid ((agT (x.against.take k)).length ≤ 2 * k) := Lib.hid (by have := agT_len (x.against.take k); rw [List.length_take] at this; omega)
            obtain ⟨aq, nq, cq, hvq⟩ : ∃ a n c, u0 = .slice a n c := by obtain ⟨a, c, e, _⟩ := ht.form; exact ⟨a, _, c, e⟩
            subst hvq
            clear ht hx hb
            have q8 := HXq.out.cell 8
            simp at q8
            by_cases hlt : k < x.against.length
            · have hlt' : (k : Int) < (x.against.length : Int) := by omega
              obtain ⟨bs, os, hax, bbs, s0, sl⟩ := IsStrs.cell HSTR.out hlt
              subst hax
              obtain ⟨sk, hsk⟩ : ∃ s, strAt x.against k = s := ⟨_, rfl⟩
              rw [hsk] at s0 sl
              obtain ⟨ys, hys⟩ : ∃ y : ByteArray, strV sk = .string y := ⟨_, rfl⟩
              rw [hys] at s0
              have HYS : Hid (ys.data.toList = sk ∧ ys.size ≤ 140737488351232) := Lib.hid ⟨str_of hys, by rw [← size_data, str_of hys]; exact sl⟩
              have HS0 := Lib.hid s0
              have HSK := Lib.hid hsk
              have hbsw : bs < w.heap.size := by have := HBX.out; have := HSZ.out; omega
              obtain ⟨T, hT⟩ : ∃ T, (ts ++ ([nmT wLetter, nmT x.name, nmT wFrom, nmT x.frm, nmT wTo, nmT x.to, nmT wClass, nmT x.cls, nmT wAfter, nuT x.after, nmT wBy, nuT x.by_, nmT wCrowd, nuT x.crowd] ++ agT (x.against.take k))) = T := ⟨_, rfl⟩
              have hTl : T.length ≤ 810000 := by rw [← hT]; have := HLq.out; simp only [List.length_append, List.length_cons, List.length_nil]; omega
              rw [hT] at HTq
              have HTE := Lib.hid hT
              clear hT s0 sl hys hsk
              by_cases hk0 : k = 0
              · subst hk0
                have HCL : Hid (Calls Tryz.prog 52 #[.slice aq nq cq, .string ⟨#[97, 103, 97, 105, 110, 115, 116]⟩] wq fun e w' => (∃ v', e = .returned v' ∧ OwnToks wq.heap.size w' v' (T ++ [nmT wAgainst])) ∧ Below wq.heap.size wq w') := Lib.hid (zput_any wq.heap.size wq _ T ⟨#[97, 103, 97, 105, 110, 115, 116]⟩ (Nat.le_refl _) HTq.out (by first | omega | (simp; omega)) (by decide))
                go_wp2_with fail
                refine HCL.out.mono ?_
                clear HCL
                rintro e Wr ⟨⟨v', rfl, ho⟩, hb⟩
                have HTr : Hid (IsToks Wr.heap.size Wr v' (T ++ [nmT wAgainst])) := Lib.hid (by have := ho.isToks; simpa using this)
                have HXr := Lib.hid (HXq.out.ext hb)
                have HBr : Hid (Below w.heap.size w Wr) := Lib.hid (HBq.out.trans (hb.mono HBq.out.size))
                have HOr : Hid (OwnToks wq.heap.size Wr v' (T ++ [nmT wAgainst])) := Lib.hid (by simpa using ho)
                obtain ⟨ar, nr, cr, hvv⟩ := ho.form'
                subst hvv
                clear ho hb
                have q8 := HXr.out.cell 8
                simp at q8
                have s1 := (HBr.out.cell (p := ⟨bs, os + 0, none⟩) hbsw).trans HS0.out
                try rw [Nat.add_zero] at s1
                have HCL : Hid (Calls Tryz.prog 52 #[.slice ar nr cr, .string ys] Wr fun e w' => (∃ v', e = .returned v' ∧ OwnToks Wr.heap.size w' v' ((T ++ [nmT wAgainst]) ++ [nmT sk])) ∧ Below Wr.heap.size Wr w') := Lib.hid (by rw [← HYS.out.1]; exact zput_any Wr.heap.size Wr _ (T ++ [nmT wAgainst]) ys (Nat.le_refl _) HTr.out (by first | omega | (simp; omega)) HYS.out.2)
                go_wp2_with fail
                refine HCL.out.mono ?_
                clear HCL
                rintro e Wg ⟨⟨v', rfl, ho⟩, hb⟩
                have HTg : Hid (IsToks Wg.heap.size Wg v' (T ++ [nmT wAgainst, nmT sk])) := Lib.hid (by have := ho.isToks; simpa using this)
                have HXg := Lib.hid (HXr.out.ext hb)
                have HBg : Hid (Below w.heap.size w Wg) := Lib.hid (HBr.out.trans (hb.mono HBr.out.size))
                have HOg : Hid (OwnToks Wr.heap.size Wg v' (T ++ [nmT wAgainst, nmT sk])) := Lib.hid (by simpa using ho)
                obtain ⟨ag, ng, cg, hvv⟩ := ho.form'
                subst hvv
                clear ho hb
                clear q8 s1
                go_wp2
                go_roundw
                case rel =>
                  refine ⟨0 + 1, by omega, by go_num, ?_, HXg.out, HBg.out⟩
                  have h := HTg.out
                  rw [← HTE.out] at h
                  rw [agT_one hlt, HSK.out]
                  simpa [agT] using h
                case measure => simp [intOf]; omega
              · have hkb : ((k : Int) == 0) = false := by
                  have : ¬ (k : Int) = 0 := by omega
                  simpa using this
                have HCL : Hid (Calls Tryz.prog 54 #[.slice aq nq cq, .string ⟨#[44]⟩] wq fun e w' => (∃ v', e = .returned v' ∧ OwnToks wq.heap.size w' v' (T ++ [sgT sComma])) ∧ Below wq.heap.size wq w') := Lib.hid (zsign_any wq.heap.size wq _ T ⟨#[44]⟩ (Nat.le_refl _) HTq.out (by omega) (by decide))
                go_wp2_with fail
                refine HCL.out.mono ?_
                clear HCL
                rintro e Wr ⟨⟨v', rfl, ho⟩, hb⟩
                have HTr : Hid (IsToks Wr.heap.size Wr v' (T ++ [sgT sComma])) := Lib.hid (by have := ho.isToks; simpa using this)
                have HXr := Lib.hid (HXq.out.ext hb)
                have HBr : Hid (Below w.heap.size w Wr) := Lib.hid (HBq.out.trans (hb.mono HBq.out.size))
                have HOr : Hid (OwnToks wq.heap.size Wr v' (T ++ [sgT sComma])) := Lib.hid (by simpa using ho)
                obtain ⟨ar, nr, cr, hvv⟩ := ho.form'
                subst hvv
                clear ho hb
                have q8 := HXr.out.cell 8
                simp at q8
                have s1 := (HBr.out.cell (p := ⟨bs, os + k, none⟩) hbsw).trans HS0.out
                try rw [Nat.add_zero] at s1
                have HCL : Hid (Calls Tryz.prog 52 #[.slice ar nr cr, .string ys] Wr fun e w' => (∃ v', e = .returned v' ∧ OwnToks Wr.heap.size w' v' ((T ++ [sgT sComma]) ++ [nmT sk])) ∧ Below Wr.heap.size Wr w') := Lib.hid (by rw [← HYS.out.1]; exact zput_any Wr.heap.size Wr _ (T ++ [sgT sComma]) ys (Nat.le_refl _) HTr.out (by first | omega | (simp; omega)) HYS.out.2)
                go_wp2_with fail
                refine HCL.out.mono ?_
                clear HCL
                rintro e Wg ⟨⟨v', rfl, ho⟩, hb⟩
                have HTg : Hid (IsToks Wg.heap.size Wg v' (T ++ [sgT sComma, nmT sk])) := Lib.hid (by have := ho.isToks; simpa using this)
                have HXg := Lib.hid (HXr.out.ext hb)
                have HBg : Hid (Below w.heap.size w Wg) := Lib.hid (HBr.out.trans (hb.mono HBr.out.size))
                have HOg : Hid (OwnToks Wr.heap.size Wg v' (T ++ [sgT sComma, nmT sk])) := Lib.hid (by simpa using ho)
                obtain ⟨ag, ng, cg, hvv⟩ := ho.form'
                subst hvv
                clear ho hb
                clear q8 s1
                go_wp2
                go_roundw
                case rel =>
                  refine ⟨k + 1, by omega, by go_num, ?_, HXg.out, HBg.out⟩
                  have h := HTg.out
                  rw [← HTE.out] at h
                  rw [agT_succ (by omega) hlt, HSK.out]
                  simpa [agT] using h
                case measure => simp [intOf]; omega
            · obtain rfl : k = x.against.length := by omega
              have hlt' : ¬ (x.against.length : Int) < (x.against.length : Int) := by omega
              obtain ⟨T, hT⟩ : ∃ T, (ts ++ ([nmT wLetter, nmT x.name, nmT wFrom, nmT x.frm, nmT wTo, nmT x.to, nmT wClass, nmT x.cls, nmT wAfter, nuT x.after, nmT wBy, nuT x.by_, nmT wCrowd, nuT x.crowd] ++ agT (x.against.take x.against.length))) = T := ⟨_, rfl⟩
              have hTl : T.length ≤ 810000 := by rw [← hT]; have := HLq.out; simp only [List.length_append, List.length_cons, List.length_nil]; omega
              rw [hT] at HTq
              have HTE : Hid (T = ts ++ ([nmT wLetter, nmT x.name, nmT wFrom, nmT x.frm, nmT wTo, nmT x.to, nmT wClass, nmT x.cls, nmT wAfter, nuT x.after, nmT wBy, nuT x.by_, nmT wCrowd, nuT x.crowd] ++ agT x.against)) := Lib.hid (by rw [← hT, List.take_length])
              clear hT
              have q7 := HXq.out.cell 7
              simp at q7
              have HCL : Hid (Calls Tryz.prog 53 #[.slice aq nq cq, .string ⟨#[112, 97, 121]⟩, .int .i64 x.pay] wq fun e w' => (∃ v', e = .returned v' ∧ OwnToks wq.heap.size w' v' (T ++ [nmT wPay, nuT x.pay])) ∧ Below wq.heap.size wq w') := Lib.hid (zdigits_any wq.heap.size wq _ T ⟨#[112, 97, 121]⟩ x.pay (Nat.le_refl _) HTq.out (by omega) (by decide) HI.out.2.2.2.1)
              go_wp2_with fail
              refine HCL.out.mono ?_
              clear HCL
              rintro e Wp ⟨⟨v', rfl, ho⟩, hb⟩
              have HTp : Hid (IsToks Wp.heap.size Wp v' (T ++ [nmT wPay, nuT x.pay])) := Lib.hid (by have := ho.isToks; simpa using this)
              have HXp := Lib.hid (HXq.out.ext hb)
              have HBp : Hid (Below w.heap.size w Wp) := Lib.hid (HBq.out.trans (hb.mono HBq.out.size))
              have HOp : Hid (OwnToks wq.heap.size Wp v' (T ++ [nmT wPay, nuT x.pay])) := Lib.hid (by simpa using ho)
              obtain ⟨ap, np, cp, hvv⟩ := ho.form'
              subst hvv
              clear ho hb
              clear q7 q8
              cases hbk : x.back with
              | true =>
                have HBK := Lib.hid hbk
                have q9 := HXp.out.cell 9
                simp at q9
                rw [hbk] at q9
                clear hbk
                have HCL : Hid (Calls Tryz.prog 52 #[.slice ap np cp, .string ⟨#[98, 97, 99, 107]⟩] Wp fun e w' => (∃ v', e = .returned v' ∧ OwnToks Wp.heap.size w' v' ((T ++ [nmT wPay, nuT x.pay]) ++ [nmT wBack])) ∧ Below Wp.heap.size Wp w') := Lib.hid (zput_any Wp.heap.size Wp _ (T ++ [nmT wPay, nuT x.pay]) ⟨#[98, 97, 99, 107]⟩ (Nat.le_refl _) HTp.out (by first | omega | (simp; omega)) (by decide))
                go_wp2_with fail
                refine HCL.out.mono ?_
                clear HCL
                rintro e Wk ⟨⟨v', rfl, ho⟩, hb⟩
                have HTk : Hid (IsToks Wk.heap.size Wk v' (T ++ [nmT wPay, nuT x.pay, nmT wBack])) := Lib.hid (by have := ho.isToks; simpa using this)
                have HXk := Lib.hid (HXp.out.ext hb)
                have HBk : Hid (Below w.heap.size w Wk) := Lib.hid (HBp.out.trans (hb.mono HBp.out.size))
                have HOk : Hid (OwnToks Wp.heap.size Wk v' (T ++ [nmT wPay, nuT x.pay, nmT wBack])) := Lib.hid (by simpa using ho)
                obtain ⟨ak, nk, ck, hvv⟩ := ho.form'
                subst hvv
                clear ho hb
                clear q9
                by_cases he : x.els = 1
                · have HEL : Hid (elT x.els = [nmT wElse, nmT wHold]) := Lib.hid (by rw [he]; rfl)
                  have q10 := HXk.out.cell 10
                  simp at q10
                  rw [he] at q10
                  have HCL : Hid (Calls Tryz.prog 52 #[.slice ak nk ck, .string ⟨#[101, 108, 115, 101]⟩] Wk fun e w' => (∃ v', e = .returned v' ∧ OwnToks Wk.heap.size w' v' ((T ++ [nmT wPay, nuT x.pay, nmT wBack]) ++ [nmT wElse])) ∧ Below Wk.heap.size Wk w') := Lib.hid (zput_any Wk.heap.size Wk _ (T ++ [nmT wPay, nuT x.pay, nmT wBack]) ⟨#[101, 108, 115, 101]⟩ (Nat.le_refl _) HTk.out (by first | omega | (simp; omega)) (by decide))
                  go_wp2_with fail
                  refine HCL.out.mono ?_
                  clear HCL
                  rintro e Wx ⟨⟨v', rfl, ho⟩, hb⟩
                  have HTx : Hid (IsToks Wx.heap.size Wx v' (T ++ [nmT wPay, nuT x.pay, nmT wBack, nmT wElse])) := Lib.hid (by have := ho.isToks; simpa using this)
                  have HXx := Lib.hid (HXk.out.ext hb)
                  have HBx : Hid (Below w.heap.size w Wx) := Lib.hid (HBk.out.trans (hb.mono HBk.out.size))
                  have HOx : Hid (OwnToks Wk.heap.size Wx v' (T ++ [nmT wPay, nuT x.pay, nmT wBack, nmT wElse])) := Lib.hid (by simpa using ho)
                  obtain ⟨ax, nx, cx, hvv⟩ := ho.form'
                  subst hvv
                  clear ho hb
                  clear q10
                  have HCL : Hid (Calls Tryz.prog 52 #[.slice ax nx cx, .string ⟨#[104, 111, 108, 100]⟩] Wx fun e w' => (∃ v', e = .returned v' ∧ OwnToks Wx.heap.size w' v' ((T ++ [nmT wPay, nuT x.pay, nmT wBack, nmT wElse]) ++ [nmT wHold])) ∧ Below Wx.heap.size Wx w') := Lib.hid (zput_any Wx.heap.size Wx _ (T ++ [nmT wPay, nuT x.pay, nmT wBack, nmT wElse]) ⟨#[104, 111, 108, 100]⟩ (Nat.le_refl _) HTx.out (by first | omega | (simp; omega)) (by decide))
                  go_wp2_with fail
                  refine HCL.out.mono ?_
                  clear HCL
                  rintro e Wy ⟨⟨v', rfl, ho⟩, hb⟩
                  have HTy : Hid (IsToks Wy.heap.size Wy v' (T ++ [nmT wPay, nuT x.pay, nmT wBack, nmT wElse, nmT wHold])) := Lib.hid (by have := ho.isToks; simpa using this)
                  have HXy := Lib.hid (HXx.out.ext hb)
                  have HBy : Hid (Below w.heap.size w Wy) := Lib.hid (HBx.out.trans (hb.mono HBx.out.size))
                  have HOy : Hid (OwnToks Wx.heap.size Wy v' (T ++ [nmT wPay, nuT x.pay, nmT wBack, nmT wElse, nmT wHold])) := Lib.hid (by simpa using ho)
                  obtain ⟨ay, ny, cy, hvv⟩ := ho.form'
                  subst hvv
                  clear ho hb
                  have q10 := HXy.out.cell 10
                  simp at q10
                  rw [he] at q10
                  have HCL : Hid (Calls Tryz.prog 54 #[.slice ay ny cy, .string ⟨#[59]⟩] Wy fun e w' => (∃ v', e = .returned v' ∧ OwnToks Wy.heap.size w' v' ((T ++ [nmT wPay, nuT x.pay, nmT wBack, nmT wElse, nmT wHold]) ++ [sgT sSemi])) ∧ Below Wy.heap.size Wy w') := Lib.hid (zsign_any Wy.heap.size Wy _ (T ++ [nmT wPay, nuT x.pay, nmT wBack, nmT wElse, nmT wHold]) ⟨#[59]⟩ (Nat.le_refl _) HTy.out (by first | omega | (simp; omega)) (by decide))
                  go_wp2_with fail
                  refine HCL.out.mono ?_
                  clear HCL
                  rintro e Wz ⟨⟨v', rfl, ho⟩, hb⟩
                  have HTz : Hid (IsToks Wz.heap.size Wz v' ((T ++ [nmT wPay, nuT x.pay, nmT wBack, nmT wElse, nmT wHold]) ++ [sgT sSemi])) := Lib.hid (by have := ho.isToks; simpa using this)
                  have HXz := Lib.hid (HXy.out.ext hb)
                  have HBz : Hid (Below w.heap.size w Wz) := Lib.hid (HBy.out.trans (hb.mono HBy.out.size))
                  have HOz : Hid (OwnToks Wy.heap.size Wz v' ((T ++ [nmT wPay, nuT x.pay, nmT wBack, nmT wElse, nmT wHold]) ++ [sgT sSemi])) := Lib.hid (by simpa using ho)
                  obtain ⟨az, nz, cz, hvv⟩ := ho.form'
                  subst hvv
                  clear ho hb
                  go_wp2
                  go_ret
                  refine ⟨⟨_, rfl, ?_⟩, HBz.out⟩
                  have h := toks_mono HOz.out (show w.heap.size ≤ Wy.heap.size from HBy.out.size)
                  rw [HTE.out] at h
                  have e : ts ++ ordT x = ts ++ ([nmT wLetter, nmT x.name, nmT wFrom, nmT x.frm, nmT wTo, nmT x.to, nmT wClass, nmT x.cls, nmT wAfter, nuT x.after, nmT wBy, nuT x.by_, nmT wCrowd, nuT x.crowd] ++ agT x.against) ++ [nmT wPay, nuT x.pay, nmT wBack, nmT wElse, nmT wHold, sgT sSemi] := by
                    unfold ordT
                    rw [HBK.out, HEL.out]
                    simp
                  rw [e]
                  simpa using h
                have he1 := he
                clear he
                by_cases he : x.els = 2
                · have HEL : Hid (elT x.els = [nmT wElse, nmT wForward]) := Lib.hid (by rw [he]; rfl)
                  have q10 := HXk.out.cell 10
                  simp at q10
                  rw [he] at q10
                  have HCL : Hid (Calls Tryz.prog 52 #[.slice ak nk ck, .string ⟨#[101, 108, 115, 101]⟩] Wk fun e w' => (∃ v', e = .returned v' ∧ OwnToks Wk.heap.size w' v' ((T ++ [nmT wPay, nuT x.pay, nmT wBack]) ++ [nmT wElse])) ∧ Below Wk.heap.size Wk w') := Lib.hid (zput_any Wk.heap.size Wk _ (T ++ [nmT wPay, nuT x.pay, nmT wBack]) ⟨#[101, 108, 115, 101]⟩ (Nat.le_refl _) HTk.out (by first | omega | (simp; omega)) (by decide))
                  go_wp2_with fail
                  refine HCL.out.mono ?_
                  clear HCL
                  rintro e Wx ⟨⟨v', rfl, ho⟩, hb⟩
                  have HTx : Hid (IsToks Wx.heap.size Wx v' (T ++ [nmT wPay, nuT x.pay, nmT wBack, nmT wElse])) := Lib.hid (by have := ho.isToks; simpa using this)
                  have HXx := Lib.hid (HXk.out.ext hb)
                  have HBx : Hid (Below w.heap.size w Wx) := Lib.hid (HBk.out.trans (hb.mono HBk.out.size))
                  have HOx : Hid (OwnToks Wk.heap.size Wx v' (T ++ [nmT wPay, nuT x.pay, nmT wBack, nmT wElse])) := Lib.hid (by simpa using ho)
                  obtain ⟨ax, nx, cx, hvv⟩ := ho.form'
                  subst hvv
                  clear ho hb
                  clear q10
                  have HCL : Hid (Calls Tryz.prog 52 #[.slice ax nx cx, .string ⟨#[102, 111, 114, 119, 97, 114, 100]⟩] Wx fun e w' => (∃ v', e = .returned v' ∧ OwnToks Wx.heap.size w' v' ((T ++ [nmT wPay, nuT x.pay, nmT wBack, nmT wElse]) ++ [nmT wForward])) ∧ Below Wx.heap.size Wx w') := Lib.hid (zput_any Wx.heap.size Wx _ (T ++ [nmT wPay, nuT x.pay, nmT wBack, nmT wElse]) ⟨#[102, 111, 114, 119, 97, 114, 100]⟩ (Nat.le_refl _) HTx.out (by first | omega | (simp; omega)) (by decide))
                  go_wp2_with fail
                  refine HCL.out.mono ?_
                  clear HCL
                  rintro e Wy ⟨⟨v', rfl, ho⟩, hb⟩
                  have HTy : Hid (IsToks Wy.heap.size Wy v' (T ++ [nmT wPay, nuT x.pay, nmT wBack, nmT wElse, nmT wForward])) := Lib.hid (by have := ho.isToks; simpa using this)
                  have HXy := Lib.hid (HXx.out.ext hb)
                  have HBy : Hid (Below w.heap.size w Wy) := Lib.hid (HBx.out.trans (hb.mono HBx.out.size))
                  have HOy : Hid (OwnToks Wx.heap.size Wy v' (T ++ [nmT wPay, nuT x.pay, nmT wBack, nmT wElse, nmT wForward])) := Lib.hid (by simpa using ho)
                  obtain ⟨ay, ny, cy, hvv⟩ := ho.form'
                  subst hvv
                  clear ho hb
                  have q10 := HXy.out.cell 10
                  simp at q10
                  rw [he] at q10
                  have HCL : Hid (Calls Tryz.prog 54 #[.slice ay ny cy, .string ⟨#[59]⟩] Wy fun e w' => (∃ v', e = .returned v' ∧ OwnToks Wy.heap.size w' v' ((T ++ [nmT wPay, nuT x.pay, nmT wBack, nmT wElse, nmT wForward]) ++ [sgT sSemi])) ∧ Below Wy.heap.size Wy w') := Lib.hid (zsign_any Wy.heap.size Wy _ (T ++ [nmT wPay, nuT x.pay, nmT wBack, nmT wElse, nmT wForward]) ⟨#[59]⟩ (Nat.le_refl _) HTy.out (by first | omega | (simp; omega)) (by decide))
                  go_wp2_with fail
                  refine HCL.out.mono ?_
                  clear HCL
                  rintro e Wz ⟨⟨v', rfl, ho⟩, hb⟩
                  have HTz : Hid (IsToks Wz.heap.size Wz v' ((T ++ [nmT wPay, nuT x.pay, nmT wBack, nmT wElse, nmT wForward]) ++ [sgT sSemi])) := Lib.hid (by have := ho.isToks; simpa using this)
                  have HXz := Lib.hid (HXy.out.ext hb)
                  have HBz : Hid (Below w.heap.size w Wz) := Lib.hid (HBy.out.trans (hb.mono HBy.out.size))
                  have HOz : Hid (OwnToks Wy.heap.size Wz v' ((T ++ [nmT wPay, nuT x.pay, nmT wBack, nmT wElse, nmT wForward]) ++ [sgT sSemi])) := Lib.hid (by simpa using ho)
                  obtain ⟨az, nz, cz, hvv⟩ := ho.form'
                  subst hvv
                  clear ho hb
                  go_wp2
                  go_ret
                  refine ⟨⟨_, rfl, ?_⟩, HBz.out⟩
                  have h := toks_mono HOz.out (show w.heap.size ≤ Wy.heap.size from HBy.out.size)
                  rw [HTE.out] at h
                  have e : ts ++ ordT x = ts ++ ([nmT wLetter, nmT x.name, nmT wFrom, nmT x.frm, nmT wTo, nmT x.to, nmT wClass, nmT x.cls, nmT wAfter, nuT x.after, nmT wBy, nuT x.by_, nmT wCrowd, nuT x.crowd] ++ agT x.against) ++ [nmT wPay, nuT x.pay, nmT wBack, nmT wElse, nmT wForward, sgT sSemi] := by
                    unfold ordT
                    rw [HBK.out, HEL.out]
                    simp
                  rw [e]
                  simpa using h
                have HEL : Hid (elT x.els = []) := Lib.hid (by unfold elT; rw [if_neg he1, if_neg he])
                have hb1 : (x.els == 1) = false := by simpa using he1
                have hb2 : (x.els == 2) = false := by simpa using he
                clear he1 he
                have q10 := HXk.out.cell 10
                simp at q10
                have HCL : Hid (Calls Tryz.prog 54 #[.slice ak nk ck, .string ⟨#[59]⟩] Wk fun e w' => (∃ v', e = .returned v' ∧ OwnToks Wk.heap.size w' v' ((T ++ [nmT wPay, nuT x.pay, nmT wBack]) ++ [sgT sSemi])) ∧ Below Wk.heap.size Wk w') := Lib.hid (zsign_any Wk.heap.size Wk _ (T ++ [nmT wPay, nuT x.pay, nmT wBack]) ⟨#[59]⟩ (Nat.le_refl _) HTk.out (by first | omega | (simp; omega)) (by decide))
                go_wp2_with fail
                refine HCL.out.mono ?_
                clear HCL
                rintro e Wz ⟨⟨v', rfl, ho⟩, hb⟩
                have HTz : Hid (IsToks Wz.heap.size Wz v' ((T ++ [nmT wPay, nuT x.pay, nmT wBack]) ++ [sgT sSemi])) := Lib.hid (by have := ho.isToks; simpa using this)
                have HXz := Lib.hid (HXk.out.ext hb)
                have HBz : Hid (Below w.heap.size w Wz) := Lib.hid (HBk.out.trans (hb.mono HBk.out.size))
                have HOz : Hid (OwnToks Wk.heap.size Wz v' ((T ++ [nmT wPay, nuT x.pay, nmT wBack]) ++ [sgT sSemi])) := Lib.hid (by simpa using ho)
                obtain ⟨az, nz, cz, hvv⟩ := ho.form'
                subst hvv
                clear ho hb
                go_wp2
                go_ret
                refine ⟨⟨_, rfl, ?_⟩, HBz.out⟩
                have h := toks_mono HOz.out (show w.heap.size ≤ Wk.heap.size from HBk.out.size)
                rw [HTE.out] at h
                have e : ts ++ ordT x = ts ++ ([nmT wLetter, nmT x.name, nmT wFrom, nmT x.frm, nmT wTo, nmT x.to, nmT wClass, nmT x.cls, nmT wAfter, nuT x.after, nmT wBy, nuT x.by_, nmT wCrowd, nuT x.crowd] ++ agT x.against) ++ [nmT wPay, nuT x.pay, nmT wBack, sgT sSemi] := by
                  unfold ordT
                  rw [HBK.out, HEL.out]
                  simp
                rw [e]
                simpa using h
              | false =>
                have HBK := Lib.hid hbk
                have q9 := HXp.out.cell 9
                simp at q9
                rw [hbk] at q9
                clear hbk
                by_cases he : x.els = 1
                · have HEL : Hid (elT x.els = [nmT wElse, nmT wHold]) := Lib.hid (by rw [he]; rfl)
                  have q10 := HXp.out.cell 10
                  simp at q10
                  rw [he] at q10
                  have HCL : Hid (Calls Tryz.prog 52 #[.slice ap np cp, .string ⟨#[101, 108, 115, 101]⟩] Wp fun e w' => (∃ v', e = .returned v' ∧ OwnToks Wp.heap.size w' v' ((T ++ [nmT wPay, nuT x.pay]) ++ [nmT wElse])) ∧ Below Wp.heap.size Wp w') := Lib.hid (zput_any Wp.heap.size Wp _ (T ++ [nmT wPay, nuT x.pay]) ⟨#[101, 108, 115, 101]⟩ (Nat.le_refl _) HTp.out (by first | omega | (simp; omega)) (by decide))
                  go_wp2_with fail
                  refine HCL.out.mono ?_
                  clear HCL
                  rintro e Wx ⟨⟨v', rfl, ho⟩, hb⟩
                  have HTx : Hid (IsToks Wx.heap.size Wx v' (T ++ [nmT wPay, nuT x.pay, nmT wElse])) := Lib.hid (by have := ho.isToks; simpa using this)
                  have HXx := Lib.hid (HXp.out.ext hb)
                  have HBx : Hid (Below w.heap.size w Wx) := Lib.hid (HBp.out.trans (hb.mono HBp.out.size))
                  have HOx : Hid (OwnToks Wp.heap.size Wx v' (T ++ [nmT wPay, nuT x.pay, nmT wElse])) := Lib.hid (by simpa using ho)
                  obtain ⟨ax, nx, cx, hvv⟩ := ho.form'
                  subst hvv
                  clear ho hb
                  clear q10
                  have HCL : Hid (Calls Tryz.prog 52 #[.slice ax nx cx, .string ⟨#[104, 111, 108, 100]⟩] Wx fun e w' => (∃ v', e = .returned v' ∧ OwnToks Wx.heap.size w' v' ((T ++ [nmT wPay, nuT x.pay, nmT wElse]) ++ [nmT wHold])) ∧ Below Wx.heap.size Wx w') := Lib.hid (zput_any Wx.heap.size Wx _ (T ++ [nmT wPay, nuT x.pay, nmT wElse]) ⟨#[104, 111, 108, 100]⟩ (Nat.le_refl _) HTx.out (by first | omega | (simp; omega)) (by decide))
                  go_wp2_with fail
                  refine HCL.out.mono ?_
                  clear HCL
                  rintro e Wy ⟨⟨v', rfl, ho⟩, hb⟩
                  have HTy : Hid (IsToks Wy.heap.size Wy v' (T ++ [nmT wPay, nuT x.pay, nmT wElse, nmT wHold])) := Lib.hid (by have := ho.isToks; simpa using this)
                  have HXy := Lib.hid (HXx.out.ext hb)
                  have HBy : Hid (Below w.heap.size w Wy) := Lib.hid (HBx.out.trans (hb.mono HBx.out.size))
                  have HOy : Hid (OwnToks Wx.heap.size Wy v' (T ++ [nmT wPay, nuT x.pay, nmT wElse, nmT wHold])) := Lib.hid (by simpa using ho)
                  obtain ⟨ay, ny, cy, hvv⟩ := ho.form'
                  subst hvv
                  clear ho hb
                  have q10 := HXy.out.cell 10
                  simp at q10
                  rw [he] at q10
                  have HCL : Hid (Calls Tryz.prog 54 #[.slice ay ny cy, .string ⟨#[59]⟩] Wy fun e w' => (∃ v', e = .returned v' ∧ OwnToks Wy.heap.size w' v' ((T ++ [nmT wPay, nuT x.pay, nmT wElse, nmT wHold]) ++ [sgT sSemi])) ∧ Below Wy.heap.size Wy w') := Lib.hid (zsign_any Wy.heap.size Wy _ (T ++ [nmT wPay, nuT x.pay, nmT wElse, nmT wHold]) ⟨#[59]⟩ (Nat.le_refl _) HTy.out (by first | omega | (simp; omega)) (by decide))
                  go_wp2_with fail
                  refine HCL.out.mono ?_
                  clear HCL
                  rintro e Wz ⟨⟨v', rfl, ho⟩, hb⟩
                  have HTz : Hid (IsToks Wz.heap.size Wz v' ((T ++ [nmT wPay, nuT x.pay, nmT wElse, nmT wHold]) ++ [sgT sSemi])) := Lib.hid (by have := ho.isToks; simpa using this)
                  have HXz := Lib.hid (HXy.out.ext hb)
                  have HBz : Hid (Below w.heap.size w Wz) := Lib.hid (HBy.out.trans (hb.mono HBy.out.size))
                  have HOz : Hid (OwnToks Wy.heap.size Wz v' ((T ++ [nmT wPay, nuT x.pay, nmT wElse, nmT wHold]) ++ [sgT sSemi])) := Lib.hid (by simpa using ho)
                  obtain ⟨az, nz, cz, hvv⟩ := ho.form'
                  subst hvv
                  clear ho hb
                  go_wp2
                  go_ret
                  refine ⟨⟨_, rfl, ?_⟩, HBz.out⟩
                  have h := toks_mono HOz.out (show w.heap.size ≤ Wy.heap.size from HBy.out.size)
                  rw [HTE.out] at h
                  have e : ts ++ ordT x = ts ++ ([nmT wLetter, nmT x.name, nmT wFrom, nmT x.frm, nmT wTo, nmT x.to, nmT wClass, nmT x.cls, nmT wAfter, nuT x.after, nmT wBy, nuT x.by_, nmT wCrowd, nuT x.crowd] ++ agT x.against) ++ [nmT wPay, nuT x.pay, nmT wElse, nmT wHold, sgT sSemi] := by
                    unfold ordT
                    rw [HBK.out, HEL.out]
                    simp
                  rw [e]
                  simpa using h
                have he1 := he
                clear he
                by_cases he : x.els = 2
                · have HEL : Hid (elT x.els = [nmT wElse, nmT wForward]) := Lib.hid (by rw [he]; rfl)
                  have q10 := HXp.out.cell 10
                  simp at q10
                  rw [he] at q10
                  have HCL : Hid (Calls Tryz.prog 52 #[.slice ap np cp, .string ⟨#[101, 108, 115, 101]⟩] Wp fun e w' => (∃ v', e = .returned v' ∧ OwnToks Wp.heap.size w' v' ((T ++ [nmT wPay, nuT x.pay]) ++ [nmT wElse])) ∧ Below Wp.heap.size Wp w') := Lib.hid (zput_any Wp.heap.size Wp _ (T ++ [nmT wPay, nuT x.pay]) ⟨#[101, 108, 115, 101]⟩ (Nat.le_refl _) HTp.out (by first | omega | (simp; omega)) (by decide))
                  go_wp2_with fail
                  refine HCL.out.mono ?_
                  clear HCL
                  rintro e Wx ⟨⟨v', rfl, ho⟩, hb⟩
                  have HTx : Hid (IsToks Wx.heap.size Wx v' (T ++ [nmT wPay, nuT x.pay, nmT wElse])) := Lib.hid (by have := ho.isToks; simpa using this)
                  have HXx := Lib.hid (HXp.out.ext hb)
                  have HBx : Hid (Below w.heap.size w Wx) := Lib.hid (HBp.out.trans (hb.mono HBp.out.size))
                  have HOx : Hid (OwnToks Wp.heap.size Wx v' (T ++ [nmT wPay, nuT x.pay, nmT wElse])) := Lib.hid (by simpa using ho)
                  obtain ⟨ax, nx, cx, hvv⟩ := ho.form'
                  subst hvv
                  clear ho hb
                  clear q10
                  have HCL : Hid (Calls Tryz.prog 52 #[.slice ax nx cx, .string ⟨#[102, 111, 114, 119, 97, 114, 100]⟩] Wx fun e w' => (∃ v', e = .returned v' ∧ OwnToks Wx.heap.size w' v' ((T ++ [nmT wPay, nuT x.pay, nmT wElse]) ++ [nmT wForward])) ∧ Below Wx.heap.size Wx w') := Lib.hid (zput_any Wx.heap.size Wx _ (T ++ [nmT wPay, nuT x.pay, nmT wElse]) ⟨#[102, 111, 114, 119, 97, 114, 100]⟩ (Nat.le_refl _) HTx.out (by first | omega | (simp; omega)) (by decide))
                  go_wp2_with fail
                  refine HCL.out.mono ?_
                  clear HCL
                  rintro e Wy ⟨⟨v', rfl, ho⟩, hb⟩
                  have HTy : Hid (IsToks Wy.heap.size Wy v' (T ++ [nmT wPay, nuT x.pay, nmT wElse, nmT wForward])) := Lib.hid (by have := ho.isToks; simpa using this)
                  have HXy := Lib.hid (HXx.out.ext hb)
                  have HBy : Hid (Below w.heap.size w Wy) := Lib.hid (HBx.out.trans (hb.mono HBx.out.size))
                  have HOy : Hid (OwnToks Wx.heap.size Wy v' (T ++ [nmT wPay, nuT x.pay, nmT wElse, nmT wForward])) := Lib.hid (by simpa using ho)
                  obtain ⟨ay, ny, cy, hvv⟩ := ho.form'
                  subst hvv
                  clear ho hb
                  have q10 := HXy.out.cell 10
                  simp at q10
                  rw [he] at q10
                  have HCL : Hid (Calls Tryz.prog 54 #[.slice ay ny cy, .string ⟨#[59]⟩] Wy fun e w' => (∃ v', e = .returned v' ∧ OwnToks Wy.heap.size w' v' ((T ++ [nmT wPay, nuT x.pay, nmT wElse, nmT wForward]) ++ [sgT sSemi])) ∧ Below Wy.heap.size Wy w') := Lib.hid (zsign_any Wy.heap.size Wy _ (T ++ [nmT wPay, nuT x.pay, nmT wElse, nmT wForward]) ⟨#[59]⟩ (Nat.le_refl _) HTy.out (by first | omega | (simp; omega)) (by decide))
                  go_wp2_with fail
                  refine HCL.out.mono ?_
                  clear HCL
                  rintro e Wz ⟨⟨v', rfl, ho⟩, hb⟩
                  have HTz : Hid (IsToks Wz.heap.size Wz v' ((T ++ [nmT wPay, nuT x.pay, nmT wElse, nmT wForward]) ++ [sgT sSemi])) := Lib.hid (by have := ho.isToks; simpa using this)
                  have HXz := Lib.hid (HXy.out.ext hb)
                  have HBz : Hid (Below w.heap.size w Wz) := Lib.hid (HBy.out.trans (hb.mono HBy.out.size))
                  have HOz : Hid (OwnToks Wy.heap.size Wz v' ((T ++ [nmT wPay, nuT x.pay, nmT wElse, nmT wForward]) ++ [sgT sSemi])) := Lib.hid (by simpa using ho)
                  obtain ⟨az, nz, cz, hvv⟩ := ho.form'
                  subst hvv
                  clear ho hb
                  go_wp2
                  go_ret
                  refine ⟨⟨_, rfl, ?_⟩, HBz.out⟩
                  have h := toks_mono HOz.out (show w.heap.size ≤ Wy.heap.size from HBy.out.size)
                  rw [HTE.out] at h
                  have e : ts ++ ordT x = ts ++ ([nmT wLetter, nmT x.name, nmT wFrom, nmT x.frm, nmT wTo, nmT x.to, nmT wClass, nmT x.cls, nmT wAfter, nuT x.after, nmT wBy, nuT x.by_, nmT wCrowd, nuT x.crowd] ++ agT x.against) ++ [nmT wPay, nuT x.pay, nmT wElse, nmT wForward, sgT sSemi] := by
                    unfold ordT
                    rw [HBK.out, HEL.out]
                    simp
                  rw [e]
                  simpa using h
                have HEL : Hid (elT x.els = []) := Lib.hid (by unfold elT; rw [if_neg he1, if_neg he])
                have hb1 : (x.els == 1) = false := by simpa using he1
                have hb2 : (x.els == 2) = false := by simpa using he
                clear he1 he
                have q10 := HXp.out.cell 10
                simp at q10
                have HCL : Hid (Calls Tryz.prog 54 #[.slice ap np cp, .string ⟨#[59]⟩] Wp fun e w' => (∃ v', e = .returned v' ∧ OwnToks Wp.heap.size w' v' ((T ++ [nmT wPay, nuT x.pay]) ++ [sgT sSemi])) ∧ Below Wp.heap.size Wp w') := Lib.hid (zsign_any Wp.heap.size Wp _ (T ++ [nmT wPay, nuT x.pay]) ⟨#[59]⟩ (Nat.le_refl _) HTp.out (by first | omega | (simp; omega)) (by decide))
                go_wp2_with fail
                refine HCL.out.mono ?_
                clear HCL
                rintro e Wz ⟨⟨v', rfl, ho⟩, hb⟩
                have HTz : Hid (IsToks Wz.heap.size Wz v' ((T ++ [nmT wPay, nuT x.pay]) ++ [sgT sSemi])) := Lib.hid (by have := ho.isToks; simpa using this)
                have HXz := Lib.hid (HXp.out.ext hb)
                have HBz : Hid (Below w.heap.size w Wz) := Lib.hid (HBp.out.trans (hb.mono HBp.out.size))
                have HOz : Hid (OwnToks Wp.heap.size Wz v' ((T ++ [nmT wPay, nuT x.pay]) ++ [sgT sSemi])) := Lib.hid (by simpa using ho)
                obtain ⟨az, nz, cz, hvv⟩ := ho.form'
                subst hvv
                clear ho hb
                go_wp2
                go_ret
                refine ⟨⟨_, rfl, ?_⟩, HBz.out⟩
                have h := toks_mono HOz.out (show w.heap.size ≤ Wp.heap.size from HBp.out.size)
                rw [HTE.out] at h
                have e : ts ++ ordT x = ts ++ ([nmT wLetter, nmT x.name, nmT wFrom, nmT x.frm, nmT wTo, nmT x.to, nmT wClass, nmT x.cls, nmT wAfter, nuT x.after, nmT wBy, nuT x.by_, nmT wCrowd, nuT x.crowd] ++ agT x.against) ++ [nmT wPay, nuT x.pay, sgT sSemi] := by
                  unfold ordT
                  rw [HBK.out, HEL.out]
                  simp
                rw [e]
                simpa using h
end Go.Proofs.YtfnmidddgjlipaaGreatDoor

/-
  Layer 17: the walk of the specification's Print.
-/
set_option linter.unusedVariables false
set_option linter.unusedSimpArgs false
namespace Go.Proofs.YtfnmidddgjlipaaGreatDoor
open Go.RowKit

set_option maxHeartbeats 8000000 in
set_option maxRecDepth 100000 in
theorem zprint_any (B : Nat) (w : World) (v : Value) (l : List WishD) (hB : B ≤ w.heap.size) (hv : IsWishes B w v l) (hf : PrFew l) (hag : ∀ x ∈ l, x.against.length ≤ 1000) :
    Calls Tryz.prog 11 #[v] w fun e w' => e = .returned (.tuple #[strV (prS l), .int .i64 (prE l)]) ∧ Below w.heap.size w w' := by
  obtain ⟨a, c, rfl, hc1, hc2, hc3⟩ := hv.form
  have HFW := Lib.hid hf
  have HAG := Lib.hid hag
  have HV := Lib.hid hv
  have HBX := Lib.hid hB
  obtain ⟨W0, hW0⟩ : ∃ W, w.alloc (.cells #[] 72) = W := ⟨_, rfl⟩
  have HB0 : Hid (Below w.heap.size w W0) := Lib.hid (by rw [← hW0]; exact box_below' w _)
  have HT0 : Hid (IsToks W0.heap.size W0 (.slice (some ⟨w.heap.size, 0, none⟩) 0 0) []) := Lib.hid (by rw [← hW0]; exact (OwnToks.made (w := w) rfl (Nat.le_refl _)).isToks)
  have HW0 := Lib.hid hW0
  clear hW0 hv hB hf hag
  go_enter Tryz.func11, Tryz.ntmps11
  go_wp2
  try rw [HW0.out]
  go_loopw [4, 5] (fun tv iv wr => ∃ k : Nat, k ≤ l.length ∧ iv = .int .i64 k ∧ IsToks wr.heap.size wr tv (ordsT (l.take k)) ∧ Below w.heap.size w wr) (fun tv iv _ => l.length - (intOf iv).toNat)
  case atStart => exact ⟨0, by omega, rfl, HT0.out, HB0.out⟩
  case round =>
    obtain ⟨k, hk, rfl, ht, hb⟩ := hrel
    obtain ⟨wq, rfl⟩ : ∃ W, W = wr := ⟨_, rfl⟩
    have HTq := Lib.hid ht
    have HBq := Lib.hid hb
    have hlen : (ordsT (l.take k)).length ≤ 100000 := Nat.le_trans (ordsT_le l k) HFW.out.len
    obtain ⟨aq, nq, cq, hvq⟩ : ∃ a n c, u4 = .slice a n c := by obtain ⟨a, c, e, _⟩ := ht.form; exact ⟨a, _, c, e⟩
    subst hvq
    clear ht hb
    by_cases hlt : k < l.length
    · have hlt' : (k : Int) < (l.length : Int) := by omega
      obtain ⟨b, off, va, rfl, bb, hst, hok, g0, g1, g2, g3, g4, g5, g6, g7, g8, g9, g10⟩ := IsWishes.cell (IsRecs.below wishK HV.out HBq.out HBX.out) hlt
      obtain ⟨av, cv, rfl, _⟩ := IsRecs.form hst
      have hxm : wishAt l k ∈ l := by rw [wishAt_get hlt]; exact List.getElem_mem hlt
      have HTKK := Lib.hid (ordsT_take hlt)
      have hagx := HAG.out _ hxm
      obtain ⟨x, hx⟩ : ∃ x, wishAt l k = x := ⟨_, rfl⟩
      rw [hx] at hst hok g0 g1 g2 g3 g4 g5 g6 g7 g8 g9 g10 hagx HTKK
      obtain ⟨T, hT⟩ : ∃ T, ordsT (l.take k) = T := ⟨_, rfl⟩
      rw [hT] at HTq hlen HTKK
      have HST := Lib.hid hst
      have HOKX := Lib.hid hok
      have HCL := Lib.hid (ztokens_any wq.heap.size wq _ T _ x (Nat.le_refl _) HTq.out (by omega) (HST.out.mono strK (by have := HBq.out.size; have := HBX.out; omega)) HOKX.out (by omega))
      clear hst hok hx hxm hT bb
      unfold wishV wishC at HCL
      go_wp2_with fail
      clear g0 g1 g2 g3 g4 g5 g6 g7 g8 g9 g10
      refine HCL.out.mono ?_
      clear HCL
      rintro e w5 ⟨⟨v5, rfl, ho⟩, hb5⟩
      have HT5 := Lib.hid ho.isToks
      have HB5 : Hid (Below w.heap.size w w5) := Lib.hid (HBq.out.trans (hb5.mono HBq.out.size))
      clear ho hb5
      go_wp2
      go_roundw
      case rel => exact ⟨k + 1, by omega, by go_num, by rw [HTKK.out]; exact HT5.out, HB5.out⟩
      case measure => simp [intOf]; omega
    · obtain rfl : k = l.length := by omega
      have hlt' : ¬ (l.length : Int) < (l.length : Int) := by omega
      rw [List.take_length] at HTq hlen
      have HTX := Lib.hid HFW.out.txt
      obtain ⟨T, hT⟩ : ∃ T, ordsT l = T := ⟨_, rfl⟩
      have HPO : Hid (prOk l = (decide (textE T = 0) && decide (readE T = 0) && sameWs l (readL T))) := Lib.hid (by unfold prOk; rw [hT])
      have HPS : Hid (prS l = if prOk l then textL T else []) := Lib.hid (by unfold prS; rw [hT])
      rw [hT] at HTq hlen HTX
      have HTO : Hid (∀ t ∈ T, okT t) := Lib.hid (by obtain ⟨_, _, _, _, _, h, _⟩ := HTq.out; exact h)
      clear hT
      obtain ⟨N, hN⟩ : ∃ N, T.length = N := ⟨_, rfl⟩
      have HN := Lib.hid hN
      obtain ⟨aq', cq', hq', _⟩ := HTq.out.form
      injection hq' with e1 e2 e3
      rw [hN] at e2 hlen
      subst e2
      clear hN e1 e3 hlt
      go_wp2_with fail
      refine (rtext_any wq.heap.size wq _ T (Nat.le_refl _) HTq.out (by rw [HN.out]; exact hlen) HTX.out).mono ?_
      rintro e w2 ⟨rfl, hb⟩
      have HB2 : Hid (Below w.heap.size w w2) := Lib.hid (HBq.out.trans (hb.mono HBq.out.size))
      have HT2 := Lib.hid ((HTq.out.below hb (Nat.le_refl _)).mono hb.size)
      clear hb
      obtain ⟨E, hE⟩ : ∃ E, textE T = E := ⟨_, rfl⟩
      obtain ⟨X, hX⟩ : ∃ X, textL T = X := ⟨_, rfl⟩
      have HTE := Lib.hid hE
      rw [hE] at HPO ⊢
      rw [hX] at HPS ⊢
      clear hE hX
      obtain ⟨y, hy⟩ : ∃ y : ByteArray, strV X = .string y := ⟨_, rfl⟩
      have HY := Lib.hid hy
      rw [hy]
      clear hy
      by_cases hE0 : E = 0
      rotate_left
      · have hEb : (E != 0) = true := by simpa using hE0
        have HP : Hid (prS l = [] ∧ prE l = 170) := Lib.hid (by
          have h : prOk l = false := by rw [HPO.out, decide_eq_false hE0]; rfl
          exact ⟨by rw [HPS.out, h]; rfl, by unfold prE; rw [h]; rfl⟩)
        clear hE0
        go_wp2
        refine bodyPost_ret (results_two rfl _ _ _) rfl ?_
        exact ⟨by rw [HP.out.1, HP.out.2]; rfl, HB2.out⟩
      subst hE0
      have HTV : Hid (∀ t ∈ T, validB t = true) := Lib.hid (by
        have h := HTE.out
        unfold textE at h
        split at h
        · rename_i hc; simpa using hc
        · cases h)
      have HRD := Lib.hid (zread_any w2.heap.size w2 aq nq cq T 0 HTV.out HTO.out (by omega) HN.out (Nat.le_refl _) HT2.out)
      go_wp2_with fail
      refine HRD.out.mono ?_
      clear HRD
      rintro e w3 ⟨⟨v3, zs, s3, rfl, ho, hrd⟩, hb⟩
      have HB3 : Hid (Below w.heap.size w w3) := Lib.hid (HB2.out.trans (hb.mono HB2.out.size))
      have HO3 := Lib.hid ho
      obtain ⟨a3, n3, c3, rfl⟩ := ho.form'
      have HRZ := Lib.hid hrd
      clear ho hb hrd
      obtain ⟨n5, b5, at5⟩ := s3
      unfold pv pvC
      simp only
      obtain ⟨W, hW⟩ : ∃ W, w3.alloc (.cells #[.slice aq nq cq, .int .i64 (n5 : Int), .int .i64 0, .bool b5, .int .i64 at5] 40) = W := ⟨_, rfl⟩
      have HB4 : Hid (Below w.heap.size w W) := Lib.hid (by rw [← hW]; exact HB3.out.alloc HB3.out.size _)
      have HO4 : Hid (IsWishes W.heap.size W (.slice a3 n3 c3) zs) := Lib.hid (by rw [← hW]; exact ownWs_is (OwnDeep.below wishSK HO3.out (box_below' w3 (.cells #[.slice aq nq cq, .int .i64 (n5 : Int), .int .i64 0, .bool b5, .int .i64 at5] 40))))
      have HC4 : Hid (CellsN W w3.heap.size #[.slice aq nq cq, .int .i64 (n5 : Int), .int .i64 0, .bool b5, .int .i64 at5]) := Lib.hid (by rw [← hW]; exact CellsN.new _ _ _)
      have HW := Lib.hid hW
      clear hW
      go_upto_region 10 with fail
      rw [HW.out]
      have m3 := HC4.out.cell 3
      simp at m3
      cases hr : pRead T with
      | error e0 =>
        have h2 := HRZ.out
        unfold readZ at h2
        rw [hr] at h2
        have h3 : b5 = true := h2.1
        subst h3
        have HP : Hid (prS l = [] ∧ prE l = 170) := Lib.hid (by
          have h : prOk l = false := by
            rw [HPO.out]
            unfold readE
            rw [hr]
            simp
          exact ⟨by rw [HPS.out, h]; rfl, by unfold prE; rw [h]; rfl⟩)
        clear hr h2
        go_wp2
        refine bodyPost_ret (results_two rfl _ _ _) rfl ?_
        exact ⟨by rw [HP.out.1, HP.out.2]; rfl, HB4.out⟩
      | ok ys =>
        have h2 := HRZ.out
        unfold readZ at h2
        rw [hr] at h2
        have h3 : b5 = false := h2.1
        have h4 : zs = ys := h2.2
        subst h3
        subst h4
        have HPO2 : Hid (prOk l = sameWs l zs) := Lib.hid (by
          rw [HPO.out]
          unfold readE readL
          rw [hr]
          simp)
        clear hr h2
        have HV4 : Hid (IsWishes W.heap.size W (.slice a l.length c) l) := Lib.hid ((IsRecs.below wishK HV.out HB4.out HBX.out).mono wishK (by have := HB4.out.size; have := HBX.out; omega))
        go_wp2_with fail
        refine (rsame17_any W.heap.size W _ _ zs l (Nat.le_refl _) HO4.out HV4.out).mono ?_
        rintro e w6 ⟨rfl, hb⟩
        have HB6 : Hid (Below w.heap.size w w6) := Lib.hid (HB4.out.trans (hb.mono HB4.out.size))
        have HSW : Hid (sameWs l zs = sameWs zs l) := Lib.hid (by unfold sameWs; exact decide_eq_decide.2 ⟨fun h => h.symm, fun h => h.symm⟩)
        clear hb
        cases hs : sameWs zs l with
        | false =>
          have HP : Hid (prS l = [] ∧ prE l = 170) := Lib.hid (by
            have h : prOk l = false := by rw [HPO2.out, HSW.out, hs]
            exact ⟨by rw [HPS.out, h]; rfl, by unfold prE; rw [h]; rfl⟩)
          clear hs
          go_wp2
          refine bodyPost_ret (results_two rfl _ _ _) rfl ?_
          exact ⟨by rw [HP.out.1, HP.out.2]; rfl, HB6.out⟩
        | true =>
          have HP : Hid (prS l = X ∧ prE l = 0) := Lib.hid (by
            have h : prOk l = true := by rw [HPO2.out, HSW.out, hs]
            exact ⟨by rw [HPS.out, h]; rfl, by unfold prE; rw [h]; rfl⟩)
          clear hs
          go_wp2
          refine bodyPost_ret (results_two rfl _ _ _) rfl ?_
          exact ⟨by rw [HP.out.1, HP.out.2, HY.out]; rfl, HB6.out⟩
end Go.Proofs.YtfnmidddgjlipaaGreatDoor

/-
  Layer 17, plain: the orders of two sources, one after the other.
-/
set_option linter.unusedVariables false
set_option linter.unusedSimpArgs false
namespace Go.Proofs.YtfnmidddgjlipaaGreatDoor

theorem suffix_drop {α : Type} {r l : List α} (h : r <:+ l) : r = l.drop (l.length - r.length) := by
  obtain ⟨p, rfl⟩ := h
  simp
/-- tokens at other places: the same orders, the same wrong token -/
theorem read_map (g : Tok → Tok) (hg : ∀ t, erase (g t) = erase t) (l : List Tok) : pRead (l.map g) = match pRead l with
    | .error r => .error (r.map g)
    | .ok xs => .ok xs := by
  have h := eras_read (l := l.map g) (l' := l) (by rw [List.map_map]; congr 1; funext t; exact hg t)
  cases e1 : pRead (l.map g) with
  | error r1 =>
    cases e2 : pRead l with
    | error r2 =>
      rw [e1, e2] at h
      have hl : r1.length = r2.length := by have := congrArg List.length (show r1.map erase = r2.map erase from h); simpa using this
      have s1 := suffix_drop (read_end _ _ (Nat.le_refl _) _ e1)
      have s2 := suffix_drop (read_end _ _ (Nat.le_refl _) _ e2)
      simp only
      rw [s1, s2, List.length_map, hl, List.map_drop]
    | ok x2 => rw [e1, e2] at h; exact h.elim
  | ok x1 =>
    cases e2 : pRead l with
    | error r2 => rw [e1, e2] at h; exact h.elim
    | ok x2 => rw [e1, e2] at h; exact congrArg _ h
theorem parL_bad {s : List UInt8} (h : parE s ≠ 0) : parL s = [] := by
  unfold parE at h
  unfold parL
  by_cases h0 : lexE s = 0
  · rw [if_pos h0] at h ⊢
    unfold readE at h
    unfold readL
    cases e : pRead (lexT s) with
    | ok xs => rw [e] at h; exact absurd rfl h
    | error r => rfl
  · rw [if_neg h0]
theorem lex_out {s : List UInt8} (hs : s.length ≤ 65536) : (∃ i, (lexA s 0).2 = some i ∧ lexE s = 30 ∧ lexP s = i ∧ lexT s = []) ∨ ((lexA s 0).2 = none ∧ lexE s = 0 ∧ lexP s = 0 ∧ lexT s = (lexA s 0).1) := by
  have h : ¬ s.length > 65536 := by omega
  unfold lexE lexP lexT
  rw [if_neg h, if_neg h, if_neg h]
  cases e : (lexA s 0).2 with
  | none => right; simp
  | some i => left; exact ⟨i, rfl, by simp, by simp, by simp⟩
theorem joined_law {a b : List UInt8} (ha : a.length ≤ 2000) (hb : b.length ≤ 2000) (he : parE a = 0) :
    (parE b ≠ 0 → parE (a ++ 10 :: b) = parE b ∧ parP (a ++ 10 :: b) = parP b + a.length + 1 ∧ parL (a ++ 10 :: b) = []) ∧
    (parE b = 0 → parE (a ++ 10 :: b) = 0 ∧ parP (a ++ 10 :: b) = 0 ∧ parL (a ++ 10 :: b) = parL a ++ parL b) := by
  have hc : (a ++ 10 :: b).length ≤ 65536 := by simp; omega
  have hla : lexE a = 0 := by
    rcases lex_out (show a.length ≤ 65536 by omega) with ⟨i, h1, h2, h3, h4⟩ | ⟨h1, h2, _⟩
    · unfold parE at he; rw [if_neg (by rw [h2]; decide), h2] at he; cases he
    · exact h2
  obtain ⟨a1, a2, a3, a4⟩ : (lexA a 0).2 = none ∧ lexE a = 0 ∧ lexP a = 0 ∧ lexT a = (lexA a 0).1 := by
    rcases lex_out (show a.length ≤ 65536 by omega) with ⟨i, h1, h2, h3, h4⟩ | h
    · rw [h2] at hla; cases hla
    · exact h
  have hra : ∃ xs, pRead (lexT a) = .ok xs := by
    unfold parE at he
    rw [if_pos hla] at he
    unfold readE at he
    cases e : pRead (lexT a) with
    | ok xs => exact ⟨xs, rfl⟩
    | error r => rw [e] at he; cases he
  obtain ⟨xs, hxs⟩ := hra
  have hj := lexA_join b a 0
  rw [a1] at hj
  simp only at hj
  have hsh := lexA_shift (a.length + 1) b 0
  rw [show 0 + a.length + 1 = 0 + (a.length + 1) by omega, hsh] at hj
  have hLa : parL a = xs := by unfold parL readL; rw [if_pos hla, hxs]
  rcases lex_out (show b.length ≤ 65536 by omega) with ⟨i, b1, b2, b3, b4⟩ | ⟨b1, b2, b3, b4⟩
  · rw [b1] at hj
    simp only [Option.map_some] at hj
    have hpe : parE b = 30 := by unfold parE; rw [if_neg (by rw [b2]; decide), b2]
    have hpp : parP b = i := by unfold parP; rw [if_neg (by rw [b2]; decide), b3]
    rcases lex_out hc with ⟨k, c1, c2, c3, c4⟩ | ⟨c1, _⟩
    · rw [hj] at c1
      simp only [Option.some.injEq] at c1
      refine ⟨fun _ => ⟨?_, ?_, ?_⟩, fun h => by rw [hpe] at h; cases h⟩
      · unfold parE; rw [if_neg (by rw [c2]; decide), c2]; exact hpe.symm
      · unfold parP; rw [if_neg (by rw [c2]; decide), c3]
        unfold parP at hpp
        rw [hpp]
        omega
      · unfold parL; rw [if_neg (by rw [c2]; decide)]
    · rw [hj] at c1; cases c1
  · rw [b1] at hj
    simp only [Option.map_none] at hj
    rcases lex_out hc with ⟨k, c1, _⟩ | ⟨c1, c2, c3, c4⟩
    · rw [hj] at c1; cases c1
    have hT : lexT (a ++ 10 :: b) = lexT a ++ (lexT b).map (shiftT (a.length + 1)) := by rw [c4, hj, a4, b4]
    have hm := read_map (shiftT (a.length + 1)) (fun t => rfl) (lexT b)
    have hr := read_app _ (lexT a) ((lexT b).map (shiftT (a.length + 1))) xs (Nat.le_refl _) hxs
    rw [hm] at hr
    cases eb : pRead (lexT b) with
    | error r =>
      rw [eb] at hr
      simp only at hr
      have hpe : parE b = 170 := by unfold parE readE; rw [if_pos b2, eb]
      have hpp : parP b = placeOf b.length r := by unfold parP readP; rw [if_pos b2, eb]
      refine ⟨fun _ => ⟨?_, ?_, ?_⟩, fun h => by rw [hpe] at h; cases h⟩
      · unfold parE readE; rw [if_pos c2, hT, hr]; exact hpe.symm
      · unfold parP readP; rw [if_pos c2, hT, hr]
        unfold parP readP at hpp
        rw [hpp]
        cases r with
        | nil => simp [placeOf]; omega
        | cons t u => simp [placeOf, shiftT]; omega
      · unfold parL readL; rw [if_pos c2, hT, hr]
    | ok ys =>
      rw [eb] at hr
      simp only at hr
      have hpe : parE b = 0 := by unfold parE readE; rw [if_pos b2, eb]
      have hLb : parL b = ys := by unfold parL readL; rw [if_pos b2, eb]
      refine ⟨fun h => absurd hpe h, fun _ => ⟨?_, ?_, ?_⟩⟩
      · unfold parE readE; rw [if_pos c2, hT, hr]
      · unfold parP readP; rw [if_pos c2, hT, hr]
      · rw [hLa, hLb]; unfold parL readL; rw [if_pos c2, hT, hr]
theorem read_len : ∀ (n : Nat) (l : List Tok) (xs : List WishD), l.length ≤ n → pRead l = .ok xs → xs.length ≤ l.length
  | _, [], xs, _, h => by cases h; simp
  | 0, t :: u, xs, hn, h => by simp at hn
  | n + 1, t :: u, xs, hn, h => by
    rw [read_cons (by simp)] at h
    cases e : pOrder (t :: u) with
    | error s => rw [e] at h; cases h
    | ok v =>
      obtain ⟨x, r⟩ := v
      rw [e] at h
      simp only at h
      obtain ⟨t', u', he, hsf⟩ := order_some e
      injection he with _ he
      subst he
      have hlen := hsf.length_le
      simp only [List.length_cons] at hn
      cases e2 : pRead r with
      | error s => rw [e2] at h; cases h
      | ok ys =>
        rw [e2] at h
        cases h
        have := read_len n r ys (by omega) e2
        simp only [List.length_cons]
        omega
theorem lexT_short (l : List UInt8) : (lexT l).length ≤ l.length := by
  unfold lexT
  split
  · simp
  · split
    · exact lexA_len l 0
    · simp
theorem parL_len (s : List UInt8) : (parL s).length ≤ s.length := by
  unfold parL
  split
  · unfold readL
    cases e : pRead (lexT s) with
    | error r => simp
    | ok xs =>
      have := read_len _ _ _ (Nat.le_refl _) e
      have := lexT_short s
      simp only
      omega
  · simp
theorem lexA_posY (l : List UInt8) : ∀ at_ : Nat, ∀ t ∈ (lexA l at_).1, (at_ : Int) ≤ t.pos ∧ t.pos < (at_ : Int) + l.length := by
  refine lex_induct (P := fun l => ∀ at_ : Nat, ∀ t ∈ (lexA l at_).1, (at_ : Int) ≤ t.pos ∧ t.pos < (at_ : Int) + l.length) ?_ ?_ ?_ l
  · intro at_ t h; rw [lexA_nil] at h; cases h
  · intro l hl h at_ t ht; rw [lexA_bad hl h] at ht; cases ht
  · intro l k o h ih at_ t ht
    have h1 := step_pos h
    rw [lexA_step h] at ht
    have key : ∀ t ∈ (lexA (l.drop k) (at_ + k)).1, (at_ : Int) ≤ t.pos ∧ t.pos < (at_ : Int) + l.length := by
      intro t ht
      have := ih (at_ + k) t ht
      rw [List.length_drop] at this
      omega
    cases o with
    | none => exact key t ht
    | some u =>
      rcases List.mem_cons.1 ht with rfl | ht
      · simp only; omega
      · exact key t ht
theorem parP_bd {s : List UInt8} (hs : s.length ≤ 65536) : 0 ≤ parP s ∧ parP s ≤ s.length := by
  unfold parP
  rcases lex_out hs with ⟨i, h1, h2, h3, h4⟩ | ⟨h1, h2, h3, h4⟩
  · rw [if_neg (by rw [h2]; decide), h3]
    have := (lexA_err s 0 i h1).2.1
    omega
  · rw [if_pos h2]
    unfold readP
    cases e : pRead (lexT s) with
    | ok xs => simp
    | error r =>
      cases r with
      | nil => simp [placeOf]
      | cons t u =>
        have hm := (read_end _ _ (Nat.le_refl _) _ e).subset (List.mem_cons_self ..)
        rw [h4] at hm
        have := lexA_posY s 0 t hm
        simp only [placeOf]
        omega
end Go.Proofs.YtfnmidddgjlipaaGreatDoor

/-
  Layer 17, plain: sources printed from tokens; a token cut off or changed.
-/
set_option linter.unusedVariables false
set_option linter.unusedSimpArgs false
namespace Go.Proofs.YtfnmidddgjlipaaGreatDoor

theorem textL_ofY {l : List Tok} (hv : ∀ t ∈ l, validB t = true) : textL l = joinW (l.map txt) := by
  unfold textL
  rw [if_pos (by simpa using hv)]
theorem textE_ofY {l : List Tok} (hv : ∀ t ∈ l, validB t = true) : textE l = 0 := by
  unfold textE
  rw [if_pos (by simpa using hv)]
theorem valid_short {t : Tok} (hv : validB t = true) : t.text.length ≤ 1000 := by
  rcases valid_kind hv with hk | hk | hk
  · have := (valid_name hv hk).1
    match hx : t.text, this with
    | c :: r, this => simp only [nameB, Bool.and_eq_true, decide_eq_true_eq] at this; omega
  · rw [(valid_num hv hk).1]; simp
  · obtain ⟨c, hc, _⟩ := valid_sgn hv hk
    rw [hc]; simp
/-- tokens printed are the tokens, apart from their places -/
theorem text_lex {l : List Tok} (hv : ∀ t ∈ l, validB t = true) (hs : (textL l).length ≤ 65536) :
    lexE (textL l) = 0 ∧ (lexT (textL l)).map erase = l.map erase ∧ lexT (textL l) = (lexA (textL l) 0).1 := by
  have h := lexA_joinW l 0 hv
  rw [← textL_ofY hv] at h
  rcases lex_out hs with ⟨i, h1, _⟩ | ⟨h1, h2, h3, h4⟩
  · rw [h.2] at h1; cases h1
  · exact ⟨h2, by rw [h4]; exact h.1, h4⟩
theorem readE_eras {l l' : List Tok} (h : l.map erase = l'.map erase) : readE l = readE l' := by
  have := eras_read h
  unfold readE
  cases e : pRead l with
  | error r => cases e' : pRead l' with
    | error r' => rfl
    | ok x' => rw [e, e'] at this; exact this.elim
  | ok x => cases e' : pRead l' with
    | error r' => rw [e, e'] at this; exact this.elim
    | ok x' => rfl
theorem readL_eras {l l' : List Tok} (h : l.map erase = l'.map erase) : readL l = readL l' := by
  have := eras_read h
  unfold readL
  cases e : pRead l with
  | error r => cases e' : pRead l' with
    | error r' => rfl
    | ok x' => rw [e, e'] at this; exact this.elim
  | ok x => cases e' : pRead l' with
    | error r' => rw [e, e'] at this; exact this.elim
    | ok x' => rw [e, e'] at this; exact this
/-- a source printed from tokens parses as the tokens are read -/
theorem text_parse {l : List Tok} (hv : ∀ t ∈ l, validB t = true) (hs : (textL l).length ≤ 65536) :
    parE (textL l) = readE l ∧ parL (textL l) = readL l := by
  obtain ⟨h1, h2, _⟩ := text_lex hv hs
  unfold parE parL
  rw [if_pos h1, if_pos h1]
  exact ⟨readE_eras h2, readL_eras h2⟩
theorem parP_ok {s : List UInt8} (h : parE s = 0) : parP s = 0 := by
  unfold parE at h
  unfold parP
  by_cases h0 : lexE s = 0
  · rw [if_pos h0] at h ⊢
    unfold readE at h
    unfold readP
    cases e : pRead (lexT s) with
    | ok xs => rfl
    | error r => rw [e] at h; cases h
  · rw [if_neg h0] at h
    exact absurd h h0
theorem par_read {s : List UInt8} (hl : lexE s = 0) (h : parE s = 0) : ∃ xs, pRead (lexT s) = .ok xs := by
  unfold parE at h
  rw [if_pos hl] at h
  unfold readE at h
  cases e : pRead (lexT s) with
  | ok xs => exact ⟨xs, rfl⟩
  | error r => rw [e] at h; cases h
/-- what the parser says of printed tokens: nothing, or the place of the first wrong one -/
theorem text_wrong {l : List Tok} (hv : ∀ t ∈ l, validB t = true) (hs : (textL l).length ≤ 65536) :
    (parE (textL l) = 0 ∧ parP (textL l) = 0 ∧ ∃ xs, pRead l = .ok xs) ∨
    ∃ r, pRead l = .error r ∧ parE (textL l) = 170 ∧ parP (textL l) = placeOf (textL l).length ((lexT (textL l)).drop (l.length - r.length)) := by
  obtain ⟨h1, h2, _⟩ := text_lex hv hs
  have h := eras_read h2
  have hll : (lexT (textL l)).length = l.length := by have := congrArg List.length h2; simpa using this
  cases e : pRead l with
  | ok xs =>
    refine .inl ?_
    have hp : parE (textL l) = 0 := by rw [(text_parse hv hs).1]; unfold readE; rw [e]
    exact ⟨hp, parP_ok hp, xs, rfl⟩
  | error r =>
    refine .inr ⟨r, rfl, by rw [(text_parse hv hs).1]; unfold readE; rw [e], ?_⟩
    unfold parP readP
    rw [if_pos h1]
    cases e2 : pRead (lexT (textL l)) with
    | ok xs => rw [e, e2] at h; exact h.elim
    | error r2 =>
      rw [e, e2] at h
      have hl : r2.length = r.length := by have := congrArg List.length (show r2.map erase = r.map erase from h); simpa using this
      have s2 := suffix_drop (read_end _ _ (Nat.le_refl _) _ e2)
      simp only
      rw [s2, hl, hll]
theorem cut_law {L : List Tok} {xs : List WishD} (hv : ∀ t ∈ L, validB t = true) (h : pRead L = .ok xs) (k : Nat) (hs : (textL (L.take k)).length ≤ 65536) :
    (parE (textL (L.take k)) = 0 ∧ parP (textL (L.take k)) = 0) ∨ (parE (textL (L.take k)) = 170 ∧ parP (textL (L.take k)) = (textL (L.take k)).length) := by
  have hv' : ∀ t ∈ L.take k, validB t = true := fun t ht => hv t (List.mem_of_mem_take ht)
  rcases text_wrong hv' hs with ⟨h1, h2, _⟩ | ⟨r, h1, h2, h3⟩
  · exact .inl ⟨h1, h2⟩
  · refine .inr ⟨h2, ?_⟩
    rcases read_cut (a := L.take k) (b := L.drop k) (xs := xs) (by rw [List.take_append_drop]; exact h) with ⟨ys, e⟩ | e
    · rw [e] at h1; cases h1
    · rw [e] at h1
      cases h1
      have hll : (lexT (textL (L.take k))).length = (L.take k).length := by have := congrArg List.length (text_lex hv' hs).2.1; simpa using this
      rw [h3, List.drop_eq_nil_of_le (by rw [hll]; simp)]
      rfl
/-- the tokens behind the first i of them lie behind the text of these -/
theorem join_pos : ∀ (l : List Tok) (i at_ : Nat), (∀ t ∈ l, validB t = true) → ∀ t ∈ (lexA (joinW (l.map txt)) at_).1.drop i, (at_ : Int) + (joinW ((l.take i).map txt)).length ≤ t.pos
  | l, 0, at_, h, t, ht => by
    have := lexA_posY _ _ t (by simpa using ht)
    simp [joinW]
    omega
  | [], i + 1, at_, h, t, ht => by simp [joinW, lexA_nil] at ht
  | [u], i + 1, at_, h, t, ht => by
    have := lexA_tok (t := u) (r := []) (h u (by simp)) rfl at_
    simp only [List.append_nil] at this
    simp only [List.map_cons, List.map_nil, joinW, this, lexA_nil, List.drop_succ_cons, List.drop_nil] at ht
    cases ht
  | u :: v :: r, i + 1, at_, h, t, ht => by
    have hu := lexA_tok (t := u) (r := 32 :: joinW ((v :: r).map txt)) (h u (by simp)) rfl at_
    have hs := lexA_spc (c := 32) (r := joinW ((v :: r).map txt)) (at_ := at_ + (txt u).length) rfl
    have ih := join_pos (v :: r) i (at_ + (txt u).length + 1) (fun x hx => h x (by simp at hx ⊢; right; exact hx)) t
    simp only [List.map_cons, joinW] at hu hs ih ht ⊢
    rw [hu, hs] at ht
    have := ih (by simpa using ht)
    cases i with
    | zero => simp [joinW] at this ⊢; omega
    | succ i => simp [joinW] at this ⊢; omega
theorem join_pre : ∀ (l : List (List UInt8)) (i : Nat), joinW (l.take i) <+: joinW l
  | l, 0 => by simp [joinW]
  | [], i + 1 => by simp [joinW]
  | [x], i + 1 => by simp [joinW]
  | x :: y :: r, 1 => by simp [joinW]
  | x :: y :: r, i + 2 => by
    have := join_pre (y :: r) (i + 1)
    simp only [List.take_succ_cons, joinW] at this ⊢
    obtain ⟨z, hz⟩ := this
    exact ⟨z, by rw [← hz]; simp⟩
theorem change_law {L : List Tok} {xs : List WishD} (hv : ∀ t ∈ L, validB t = true) (h : pRead L = .ok xs) {i : Nat} (hi : i < L.length) {o : Tok} (ho : validB o = true)
    (hs : (textL (L.set i o)).length ≤ 65536) :
    (parE (textL (L.set i o)) = 0 ∧ parP (textL (L.set i o)) = 0) ∨
    (parE (textL (L.set i o)) = 170 ∧ ((textL (L.take i)).length : Int) ≤ parP (textL (L.set i o)) ∧ parP (textL (L.set i o)) ≤ (textL (L.set i o)).length) := by
  have hv' : ∀ t ∈ L.set i o, validB t = true := fun t ht => by
    rcases List.mem_or_eq_of_mem_set ht with h | rfl
    · exact hv t h
    · exact ho
  have hvt : ∀ t ∈ L.take i, validB t = true := fun t ht => hv t (List.mem_of_mem_take ht)
  rcases text_wrong hv' hs with ⟨h1, h2, _⟩ | ⟨r, h1, h2, h3⟩
  · exact .inl ⟨h1, h2⟩
  · refine .inr ⟨h2, ?_, (parP_bd hs).2⟩
    have hsp : L.set i o = L.take i ++ o :: L.drop (i + 1) := by rw [List.set_eq_take_append_cons_drop, if_pos hi]
    have hsuf : r <:+ o :: L.drop (i + 1) := read_change (a := L.take i) (b := L.drop i) (xs := xs) (by rw [List.take_append_drop]; exact h) (by rw [← hsp]; exact h1)
    have hlen := hsuf.length_le
    simp only [List.length_cons, List.length_drop] at hlen
    have hli : i ≤ (L.set i o).length - r.length := by rw [List.length_set]; omega
    obtain ⟨d, hd⟩ : ∃ d, (L.set i o).length - r.length = i + d := ⟨_, (Nat.add_sub_cancel' hli).symm⟩
    rw [h3, hd, (text_lex hv' hs).2.2, ← List.drop_drop]
    have htk : (L.set i o).take i = L.take i := by rw [List.take_set]; exact List.set_eq_of_length_le (by simp; omega)
    rw [textL_ofY hvt, textL_ofY hv']
    have hpre := (join_pre ((L.set i o).map txt) i).length_le
    rw [← List.map_take, htk] at hpre
    cases e : List.drop d (List.drop i (lexA (joinW ((L.set i o).map txt)) 0).1) with
    | nil => simp only [placeOf]; omega
    | cons t u =>
      have hm : t ∈ (lexA (joinW ((L.set i o).map txt)) 0).1.drop i := List.mem_of_mem_drop (by rw [e]; exact List.mem_cons_self ..)
      have := join_pos _ i 0 hv' t hm
      rw [htk] at this
      simp only [placeOf]
      omega
theorem change_pre {L : List Tok} (hv : ∀ t ∈ L, validB t = true) {i : Nat} {o : Tok} (ho : validB o = true) : textL (L.take i) <+: textL (L.set i o) := by
  have hv' : ∀ t ∈ L.set i o, validB t = true := fun t ht => by
    rcases List.mem_or_eq_of_mem_set ht with h | rfl
    · exact hv t h
    · exact ho
  have hvt : ∀ t ∈ L.take i, validB t = true := fun t ht => hv t (List.mem_of_mem_take ht)
  rw [textL_ofY hvt, textL_ofY hv']
  have hpre := join_pre ((L.set i o).map txt) i
  rw [← List.map_take] at hpre
  have htk : (L.set i o).take i = L.take i := by rw [List.take_set]; exact List.set_eq_of_length_le (by simp; omega)
  rw [htk] at hpre
  exact hpre
end Go.Proofs.YtfnmidddgjlipaaGreatDoor

/-
  Layer 17, plain: what was read from valid tokens is printed as these tokens; what was printed is read again.
-/
set_option linter.unusedVariables false
set_option linter.unusedSimpArgs false
namespace Go.Proofs.YtfnmidddgjlipaaGreatDoor

/-- what a part of the parser takes, as tokens without places -/
def Prt {α : Type} (p : List Tok → PR α) (R : α → List Tok → Prop) : Prop := ∀ l x r, (∀ t ∈ l, validB t = true) → p l = .ok (x, r) → ∃ u, l.map erase = u ++ r.map erase ∧ R x u
theorem prt_mono {α : Type} {p : List Tok → PR α} {R S : α → List Tok → Prop} (h : Prt p R) (hs : ∀ x u, R x u → S x u) : Prt p S := fun l x r hl e => by
  obtain ⟨u, h1, h2⟩ := h l x r hl e
  exact ⟨u, h1, hs _ _ h2⟩
theorem prt_bind {α β : Type} {p : List Tok → PR α} {q : α → List Tok → PR β} {R : α → List Tok → Prop} {S : α → β → List Tok → Prop} (hp : Prt p R) (he : Ends p) (hq : ∀ x, Prt (q x) (S x)) :
    Prt (pBind p q) (fun y u => ∃ x u1 u2, u = u1 ++ u2 ∧ R x u1 ∧ S x y u2) := fun l y r hl h => by
  unfold pBind at h
  cases e : p l with
  | error s => rw [e] at h; cases h
  | ok v =>
    obtain ⟨x, r1⟩ := v
    rw [e] at h
    have h1 := he l
    rw [e] at h1
    obtain ⟨u1, k1, k2⟩ := hp l x r1 hl e
    obtain ⟨u2, k3, k4⟩ := hq x r1 y r (fun t ht => hl t (h1.subset ht)) h
    exact ⟨u1 ++ u2, by rw [k1, k3, List.append_assoc], x, u1, u2, rfl, k2, k4⟩
theorem prt_pure {α : Type} (x : α) : Prt (pPure x) (fun y u => y = x ∧ u = []) := fun l y r hl e => by
  cases e
  exact ⟨[], rfl, rfl, rfl⟩
theorem erase_word {t : Tok} {s : Str} (hv : validB t = true) (h : isT t s = true) (hs : s.length ≠ 1) : erase t = nmT s := by
  unfold isT at h
  simp only [Bool.and_eq_true, bne_iff_ne, ne_eq, beq_iff_eq] at h
  obtain ⟨h1, rfl⟩ := h
  rcases valid_kind hv with hk | hk | hk
  · have := (valid_name hv hk).2
    obtain ⟨k, x, n, p⟩ := t
    simp only at hk this
    subst hk; subst this
    rfl
  · exact absurd hk h1
  · obtain ⟨c, hc, _⟩ := valid_sgn hv hk
    rw [hc] at hs
    exact absurd rfl hs
theorem erase_sign {t : Tok} {s : Str} (hv : validB t = true) (h : isT t s = true) (hs : nameB s = false) : erase t = sgT s := by
  unfold isT at h
  simp only [Bool.and_eq_true, bne_iff_ne, ne_eq, beq_iff_eq] at h
  obtain ⟨h1, rfl⟩ := h
  rcases valid_kind hv with hk | hk | hk
  · have := (valid_name hv hk).1
    rw [hs] at this
    cases this
  · exact absurd hk h1
  · obtain ⟨c, hc, _, hn⟩ := valid_sgn hv hk
    obtain ⟨k, x, n, p⟩ := t
    simp only at hk hn
    subst hk; subst hn
    rfl
theorem prt_take {s : Str} {u : Tok} (hw : ∀ t, validB t = true → isT t s = true → erase t = u) {l r : List Tok} (hl : ∀ t ∈ l, validB t = true) (h : pTake s l = some r) : l.map erase = u :: r.map erase := by
  obtain ⟨t, rfl, ht⟩ := take_end h
  rw [List.map_cons, hw t (hl t (List.mem_cons_self ..)) ht]
theorem prt_want {s : Str} {u : Tok} (hw : ∀ t, validB t = true → isT t s = true → erase t = u) : Prt (pWant s) (fun _ x => x = [u]) := fun l x r hl h => by
  unfold pWant at h
  cases e : pTake s l with
  | none => rw [e] at h; cases h
  | some r' =>
    rw [e] at h
    cases h
    exact ⟨[u], by rw [prt_take hw hl e]; rfl, rfl⟩
theorem prt_word {s : Str} (hs : s.length ≠ 1) : Prt (pWant s) (fun _ x => x = [nmT s]) := prt_want fun t hv h => erase_word hv h hs
theorem prt_sign {s : Str} (hs : nameB s = false) : Prt (pWant s) (fun _ x => x = [sgT s]) := prt_want fun t hv h => erase_sign hv h hs
theorem prt_name : Prt pName (fun s u => u = [nmT s]) := fun l x r hl h => by
  cases l with
  | nil => cases h
  | cons t u =>
    rw [name_cons] at h
    split at h
    · rename_i hc
      cases h
      have hv := hl t (List.mem_cons_self ..)
      unfold okName at hc
      simp only [Bool.and_eq_true, beq_iff_eq] at hc
      have := (valid_name hv hc.1).2
      refine ⟨[nmT t.text], ?_, rfl⟩
      obtain ⟨k, x, n, p⟩ := t
      simp only at hc this
      obtain ⟨hk, _⟩ := hc
      subst hk; subst this
      rfl
    · cases h
theorem prt_num (m : Int) : Prt (pNum m) (fun n u => u = [nuT n]) := fun l x r hl h => by
  cases l with
  | nil => cases h
  | cons t u =>
    rw [num_cons] at h
    split at h
    · rename_i hc
      cases h
      have hv := hl t (List.mem_cons_self ..)
      unfold okNum at hc
      simp only [Bool.and_eq_true, beq_iff_eq] at hc
      have := (valid_num hv hc.1).1
      refine ⟨[nuT t.n], ?_, rfl⟩
      obtain ⟨k, x, n, p⟩ := t
      simp only at hc this
      obtain ⟨hk, _⟩ := hc
      subst hk; subst this
      rfl
    · cases h
theorem prt_wn {s : Str} (hs : s.length ≠ 1) : Prt (pWN s) (fun n u => u = [nmT s, nmT n]) :=
  prt_mono (prt_bind (prt_word hs) (ends_want s) fun _ => prt_name) fun x u ⟨_, u1, u2, h1, h2, h3⟩ => by rw [h1, h2, h3]; rfl
theorem prt_wm {s : Str} {m : Int} (hs : s.length ≠ 1) : Prt (pWM s m) (fun n u => u = [nmT s, nuT n]) :=
  prt_mono (prt_bind (prt_word hs) (ends_want s) fun _ => prt_num m) fun x u ⟨_, u1, u2, h1, h2, h3⟩ => by rw [h1, h2, h3]; rfl
theorem prt_if {α : Type} {s : Str} {v : Tok} {p q : List Tok → PR α} {R S : α → List Tok → Prop} (hw : ∀ t, validB t = true → isT t s = true → erase t = v) (hp : Prt p R) (hq : Prt q S) :
    Prt (pIf s p q) (fun x u => (∃ u', u = v :: u' ∧ R x u') ∨ S x u) := fun l x r hl h => by
  unfold pIf at h
  cases e : pTake s l with
  | none =>
    rw [e] at h
    obtain ⟨u, h1, h2⟩ := hq l x r hl h
    exact ⟨u, h1, .inr h2⟩
  | some r' =>
    rw [e] at h
    have h0 := prt_take hw hl e
    obtain ⟨t, rfl, _⟩ := take_end e
    obtain ⟨u, h1, h2⟩ := hp r' x r (fun t ht => hl t (List.mem_cons_of_mem _ ht)) h
    exact ⟨v :: u, by rw [h0, h1]; rfl, .inl ⟨u, rfl, h2⟩⟩
theorem prt_more : ∀ (f : Nat) (acc : List Str), Prt (pMore f acc) (fun ag u => ∃ xs, ag = acc ++ xs ∧ u = xs.flatMap (fun x => [sgT sComma, nmT x]))
  | 0, acc => prt_mono (prt_pure acc) fun x u ⟨h1, h2⟩ => ⟨[], by rw [h1, List.append_nil], by rw [h2]; rfl⟩
  | f + 1, acc => by
    rw [more_eq]
    refine prt_mono (prt_if (v := sgT sComma) (fun t hv h => erase_sign hv h rfl) (prt_bind prt_name ends_name fun s => prt_more f (acc ++ [s])) (prt_pure acc)) ?_
    rintro x u (⟨u', h1, s, u1, u2, h2, h3, xs, h4, h5⟩ | ⟨h1, h2⟩)
    · exact ⟨s :: xs, by rw [h4]; simp, by rw [h1, h2, h3, h5]; simp⟩
    · exact ⟨[], by rw [h1, List.append_nil], by rw [h2]; rfl⟩
theorem prt_against : Prt pAgainst (fun ag u => u = agT ag) := by
  rw [against_eq]
  refine prt_mono (prt_if (v := nmT wAgainst) (fun t hv h => erase_word hv h (by decide)) (prt_bind prt_name ends_name fun s l x r hl h => prt_more l.length [s] l x r hl h) (prt_pure [])) ?_
  rintro x u (⟨u', h1, s, u1, u2, h2, h3, xs, h4, h5⟩ | ⟨h1, h2⟩)
  · rw [h4, h1, h2, h3, h5]; rfl
  · rw [h1, h2]; rfl
theorem prt_back : Prt pBack (fun b u => u = if b then [nmT wBack] else []) := by
  refine prt_mono (prt_if (v := nmT wBack) (fun t hv h => erase_word hv h (by decide)) (prt_pure true) (prt_pure false)) ?_
  rintro x u (⟨u', h1, h2, h3⟩ | ⟨h1, h2⟩)
  · rw [h2, h1, h3]; rfl
  · rw [h1, h2]; rfl
theorem prt_else : Prt pElse (fun e u => u = elT e) := by
  refine prt_mono (prt_if (v := nmT wElse) (fun t hv h => erase_word hv h (by decide)) (prt_if (v := nmT wHold) (fun t hv h => erase_word hv h (by decide)) (prt_pure (1 : Int)) (prt_bind (prt_word (s := wForward) (by decide)) (ends_want _) fun _ => prt_pure (2 : Int))) (prt_pure (0 : Int))) ?_
  rintro x u (⟨u', h1, (⟨u'', h2, h3, h4⟩ | ⟨_, u1, u2, h2, h3, h4, h5⟩)⟩ | ⟨h1, h2⟩)
  · rw [h1, h2, h3, h4]; rfl
  · rw [h1, h2, h3, h4, h5]; rfl
  · rw [h1, h2]; rfl
theorem prt_body : Prt pBody (fun x u => u ++ [sgT sSemi] = ordT x) := by
  refine prt_mono (prt_bind (prt_wn (s := wLetter) (by decide)) (ends_wn _) fun a => prt_bind (prt_wn (s := wFrom) (by decide)) (ends_wn _) fun b => prt_bind (prt_wn (s := wTo) (by decide)) (ends_wn _) fun c => prt_bind (prt_wn (s := wClass) (by decide)) (ends_wn _) fun d =>
    prt_bind (prt_wm (s := wAfter) (by decide)) (ends_wm _ _) fun i => prt_bind (prt_wm (s := wBy) (by decide)) (ends_wm _ _) fun j => prt_bind (prt_wm (s := wCrowd) (by decide)) (ends_wm _ _) fun k =>
    prt_bind prt_against ends_against fun ag => prt_bind (prt_wm (s := wPay) (by decide)) (ends_wm _ _) fun p => prt_bind prt_back ends_back fun bk => prt_bind prt_else ends_else fun el => prt_pure (⟨a, b, c, d, i, j, k, p, ag, bk, el⟩ : WishD)) ?_
  rintro x u ⟨a, ua, u1, e1, ha, b, ub, u2, e2, hb, c, uc, u3, e3, hc, d, ud, u4, e4, hd, i, ui, u5, e5, hi, j, uj, u6, e6, hj, k, uk, u7, e7, hk, ag, uag, u8, e8, hag, p, up, u9, e9, hp, bk, ubk, u10, e10, hbk, el, uel, u11, e11, hel, hx, e12⟩
  subst hx
  rw [e1, e2, e3, e4, e5, e6, e7, e8, e9, e10, e11, e12, ha, hb, hc, hd, hi, hj, hk, hag, hp, hbk, hel]
  unfold ordT
  simp
theorem prt_order : Prt pOrder (fun x u => u = ordT x) := by
  refine prt_mono (prt_bind prt_body ends_body fun x => prt_bind (prt_sign (s := sSemi) rfl) (ends_want _) fun _ => prt_pure x) ?_
  rintro x u ⟨y, u1, u2, e1, h1, _, u3, u4, e2, h2, rfl, e3⟩
  rw [e1, e2, h2, e3, ← h1]
  simp
/-- the tokens of orders that were read -/
theorem read_print : ∀ (n : Nat) (l : List Tok) (xs : List WishD), l.length ≤ n → (∀ t ∈ l, validB t = true) → pRead l = .ok xs → l.map erase = ordsT xs
  | _, [], xs, _, _, h => by cases h; rfl
  | 0, t :: u, xs, hn, _, h => by simp at hn
  | n + 1, t :: u, xs, hn, hl, h => by
    rw [read_cons (by simp)] at h
    cases e : pOrder (t :: u) with
    | error s => rw [e] at h; cases h
    | ok v =>
      obtain ⟨x, r⟩ := v
      rw [e] at h
      simp only at h
      obtain ⟨t', u', he, hsf⟩ := order_some e
      injection he with _ he
      subst he
      have hlen := hsf.length_le
      simp only [List.length_cons] at hn
      cases e2 : pRead r with
      | error s => rw [e2] at h; cases h
      | ok ys =>
        rw [e2] at h
        cases h
        obtain ⟨w, h1, rfl⟩ := prt_order _ _ _ hl e
        have ih := read_print n r ys (by omega) (fun t ht => hl t (List.mem_cons_of_mem _ (hsf.subset ht))) e2
        rw [h1, ih]
        unfold ordsT
        rw [List.flatMap_cons]
theorem erase_validY {t : Tok} (h : validB t = true) : validB (erase t) = true := h
theorem ordsT_mem {l : List WishD} {x : WishD} (h : x ∈ l) : ∀ t ∈ ordT x, t ∈ ordsT l := fun t ht => List.mem_flatMap.2 ⟨x, h, ht⟩
theorem agT_lenY (ag : List Str) : (agT ag).length = 2 * ag.length := by
  cases ag with
  | nil => rfl
  | cons s r =>
    simp only [agT, List.length_cons]
    have : (r.flatMap (fun x => [sgT sComma, nmT x])).length = 2 * r.length := by
      induction r with
      | nil => rfl
      | cons a b ih => simp only [List.flatMap_cons, List.length_append, List.length_cons, List.length_nil, ih]; omega
    omega
theorem elT_len (e : Int) : (elT e).length ≤ 2 := by
  unfold elT
  split
  · simp
  · split <;> simp
theorem ordT_len (x : WishD) : 2 * x.against.length ≤ (ordT x).length ∧ (ordT x).length ≤ 20 + 2 * x.against.length := by
  unfold ordT
  have h1 := agT_lenY x.against
  have h2 := elT_len x.els
  simp only [List.length_append, List.length_cons, List.length_nil, h1]
  by_cases hb : x.back = true
  · rw [if_pos hb]; simp; omega
  · rw [if_neg hb]; simp; omega
theorem ordsT_len_mem : ∀ (l : List WishD) (x : WishD), x ∈ l → (ordT x).length ≤ (ordsT l).length
  | [], x, h => by cases h
  | y :: l, x, h => by
    unfold ordsT
    rw [List.flatMap_cons, List.length_append]
    rcases List.mem_cons.1 h with rfl | h
    · omega
    · have := ordsT_len_mem l x h
      unfold ordsT at this
      omega
theorem prS_ok {l : List WishD} (h : prOk l = true) : prS l = textL (ordsT l) := by unfold prS; rw [h]; rfl
theorem prE_ok {l : List WishD} (h : prOk l = true) : prE l = 0 := by unfold prE; rw [h]; rfl
theorem prS_bad {l : List WishD} (h : prE l ≠ 0) : prS l = [] ∧ prE l = 170 := by
  unfold prE at h ⊢
  unfold prS
  cases e : prOk l with
  | true => rw [e] at h; exact absurd rfl h
  | false => exact ⟨rfl, rfl⟩
theorem pr_ok {l : List WishD} (h : prE l = 0) : prOk l = true := by
  cases e : prOk l with
  | true => rfl
  | false => unfold prE at h; rw [e] at h; cases h
/-- what was read can be printed -/
theorem parsed_prints {s : List UInt8} (hs : s.length ≤ 2000) (h : parE s = 0) : PrFew (parL s) ∧ prE (parL s) = 0 := by
  have hl : lexE s = 0 := by
    unfold parE at h
    by_cases h0 : lexE s = 0
    · exact h0
    · rw [if_neg h0] at h; exact absurd h h0
  obtain ⟨xs, hx⟩ := par_read hl h
  have hL : parL s = xs := by unfold parL readL; rw [if_pos hl, hx]
  have hv := lexT_valid s
  have hp := read_print _ _ _ (Nat.le_refl _) hv hx
  have hsh := lexT_short s
  have hlen : (ordsT xs).length ≤ 2000 := by rw [← hp, List.length_map]; omega
  have hvo : ∀ t ∈ ordsT xs, validB t = true := by
    rw [← hp]
    intro t ht
    obtain ⟨u, hu, rfl⟩ := List.mem_map.1 ht
    exact erase_validY (hv u hu)
  have hfine : ∀ x ∈ xs, Fine x := fun x hx' => fine_from (read_from _ _ _ (Nat.le_refl _) hv hx x hx')
  have hr := orders_read xs hfine
  rw [hL]
  refine ⟨⟨by omega, fun t ht => ?_, fun x hx' => ?_⟩, prE_ok ?_⟩
  · have := valid_short (hvo t ht); omega
  · have h1 := ordsT_len_mem xs x hx'
    have h2 := (ordT_len x).1
    omega
  · unfold prOk
    rw [textE_ofY hvo]
    unfold readE readL sameWs
    rw [hr]
    simp
theorem few_prFew {l : List WishD} (h : few17 l = true) : PrFew l := by
  unfold few17 at h
  simp only [Bool.and_eq_true, decide_eq_true_eq, List.all_eq_true] at h
  obtain ⟨h1, h2⟩ := h
  rw [List.take_of_length_le h2] at h1
  have hx : ∀ x ∈ l, x.name.length ≤ 40 ∧ x.frm.length ≤ 40 ∧ x.to.length ≤ 40 ∧ x.cls.length ≤ 40 ∧ x.against.length ≤ 30 ∧ ∀ s ∈ x.against, s.length ≤ 40 := by
    intro x hx
    have := h1 x hx
    unfold fewX at this
    simp only [Bool.and_eq_true, decide_eq_true_eq, List.all_eq_true] at this
    obtain ⟨⟨⟨⟨⟨a, b⟩, c⟩, d⟩, e⟩, f⟩ := this
    exact ⟨a, b, c, d, e, f⟩
  have hlen : ∀ (l : List WishD), (∀ x ∈ l, x.against.length ≤ 30) → (ordsT l).length ≤ 80 * l.length := by
    intro l
    induction l with
    | nil => intro _; simp [ordsT]
    | cons y l ih =>
      intro h
      have i1 := ih (fun x hx => h x (List.mem_cons_of_mem _ hx))
      have i2 := (ordT_len y).2
      have i3 := h y (List.mem_cons_self ..)
      unfold ordsT at i1 ⊢
      rw [List.flatMap_cons, List.length_append, List.length_cons]
      omega
  refine ⟨?_, fun t ht => ?_, fun x hx' => ?_⟩
  · have := hlen l (fun x hx' => (hx x hx').2.2.2.2.1)
    have : 80 * l.length ≤ 80 * 30 := Nat.mul_le_mul_left _ h2
    omega
  · obtain ⟨x, hm, ht⟩ := List.mem_flatMap.1 ht
    obtain ⟨a, b, c, d, _, f⟩ := hx x hm
    unfold ordT at ht
    simp only [List.mem_append, List.mem_cons, List.not_mem_nil, or_false] at ht
    have hw : ∀ s ∈ [wLetter, wFrom, wTo, wClass, wAfter, wBy, wCrowd, wPay, wAgainst, wBack, wElse, wHold, wForward, sSemi, sComma], s.length ≤ 40 := by decide
    have hag : ∀ t ∈ agT x.against, t.text.length ≤ 40 := by
      intro t ht
      cases hx : x.against with
      | nil => rw [hx] at ht; cases ht
      | cons s r =>
        rw [hx] at ht f
        simp only [agT, List.mem_cons, List.mem_flatMap, List.not_mem_nil, or_false] at ht
        rcases ht with rfl | rfl | ⟨y, hy, rfl | rfl⟩
        · decide
        · exact f s (List.mem_cons_self ..)
        · decide
        · exact f y (List.mem_cons_of_mem _ hy)
    have hel : ∀ t ∈ elT x.els, t.text.length ≤ 40 := by
      intro t ht
      unfold elT at ht
      split at ht
      · simp only [List.mem_cons, List.not_mem_nil, or_false] at ht
        rcases ht with rfl | rfl <;> decide
      · split at ht
        · simp only [List.mem_cons, List.not_mem_nil, or_false] at ht
          rcases ht with rfl | rfl <;> decide
        · cases ht
    have key : t.text.length ≤ 40 := by
      rcases ht with ((((ht | ht) | ht) | ht) | ht) | ht
      · rcases ht with rfl | rfl | rfl | rfl | rfl | rfl | rfl | rfl | rfl | rfl | rfl | rfl | rfl | rfl
        all_goals first | decide | assumption | (simp [nuT])
      · exact hag t ht
      · rcases ht with rfl | rfl
        · decide
        · simp [nuT]
      · by_cases hb : x.back = true
        · rw [if_pos hb] at ht
          obtain rfl := List.mem_singleton.1 ht
          decide
        · rw [if_neg hb] at ht
          cases ht
      · exact hel t ht
      · rw [ht]; decide
    omega
  · have := (hx x hx').2.2.2.2.1; omega
/-- what was printed is read again -/
theorem printed_parses {l : List WishD} (h : prE l = 0) (hs : (prS l).length ≤ 65536) : parE (prS l) = 0 ∧ parP (prS l) = 0 ∧ parL (prS l) = l := by
  have ho := pr_ok h
  rw [prS_ok ho] at hs ⊢
  unfold prOk at ho
  simp only [Bool.and_eq_true, decide_eq_true_eq] at ho
  obtain ⟨⟨h1, h2⟩, h3⟩ := ho
  have hv : ∀ t ∈ ordsT l, validB t = true := by
    unfold textE at h1
    split at h1
    · rename_i hc; simpa using hc
    · cases h1
  obtain ⟨k1, k2⟩ := text_parse hv hs
  have k3 : parE (textL (ordsT l)) = 0 := by rw [k1]; exact h2
  refine ⟨k3, parP_ok k3, ?_⟩
  rw [k2]
  unfold sameWs at h3
  exact (of_decide_eq_true h3).symm
end Go.Proofs.YtfnmidddgjlipaaGreatDoor

/-
  Layer 17: the walk of SyntaxPrintSpec.
-/
set_option linter.unusedVariables false
set_option linter.unusedSimpArgs false
namespace Go.Proofs.YtfnmidddgjlipaaGreatDoor
open Go.RowKit

theorem few_ag {l : List WishD} (h : few17 l = true) : ∀ x ∈ l, x.against.length ≤ 1000 := by
  unfold few17 at h
  simp only [Bool.and_eq_true, decide_eq_true_eq, List.all_eq_true] at h
  obtain ⟨h1, h2⟩ := h
  rw [List.take_of_length_le h2] at h1
  intro x hx
  have := h1 x hx
  unfold fewX at this
  simp only [Bool.and_eq_true, decide_eq_true_eq, List.all_eq_true] at this
  have := this.1.2
  omega
theorem sameWs_selfZ (l : List WishD) : sameWs l l = true := by unfold sameWs; simp
set_option maxHeartbeats 8000000 in
set_option maxRecDepth 100000 in
theorem syntaxPrintSpec_any (B : Nat) (va vb : Value) (a b : List WishD) (w : World) (hL : LaidW w) (hB : B ≤ w.heap.size) (ha : IsWishes B w va a) (hb : IsWishes B w vb b) :
    Calls Tryz.prog 4 #[va, vb] w fun e w' => e = .returned (.bool true) ∧ Below w.heap.size w w' := by
  have HL0 := Lib.hid hL
  have h4 := hL.size
  have HBX := Lib.hid hB
  have HA := Lib.hid ha
  have HB := Lib.hid hb
  obtain ⟨a1, c1, rfl, hc1, hc2, hc3⟩ := ha.form
  obtain ⟨a2, c2, rfl, hd1, hd2, hd3⟩ := hb.form
  clear hL hB ha hb
  go_enter Tryz.func4, Tryz.ntmps4
  go_wp2_with fail
  refine (sane17_any w HL0.out).mono ?_
  rintro e w1 ⟨rfl, hb⟩
  have HB1 := Lib.hid hb
  have hz1 : B ≤ w1.heap.size := Nat.le_trans HBX.out hb.size
  clear hb
  go_wp2_with fail
  refine (few17_any B w1 _ a hz1 (IsRecs.below wishK HA.out HB1.out HBX.out)).mono ?_
  rintro e w2 ⟨rfl, hb⟩
  have HB2 : Hid (Below w.heap.size w w2) := Lib.hid (HB1.out.trans (hb.mono HB1.out.size))
  have hz2 : B ≤ w2.heap.size := Nat.le_trans hz1 hb.size
  clear hb
  cases hfa : few17 a with
  | false =>
    clear hfa
    go_wp2
    go_ret
    exact ⟨rfl, HB2.out⟩
  | true =>
  have HFA := Lib.hid hfa
  clear hfa
  go_wp2_with fail
  refine (few17_any B w2 _ b hz2 (IsRecs.below wishK HB.out HB2.out HBX.out)).mono ?_
  rintro e w3 ⟨rfl, hb⟩
  have HB3 : Hid (Below w.heap.size w w3) := Lib.hid (HB2.out.trans (hb.mono HB2.out.size))
  have hz3 : B ≤ w3.heap.size := Nat.le_trans hz2 hb.size
  clear hb
  cases hfb : few17 b with
  | false =>
    clear hfb
    go_wp2
    go_ret
    exact ⟨rfl, HB3.out⟩
  | true =>
  clear hfb
  have HPF := Lib.hid (few_prFew HFA.out)
  have HAG := Lib.hid (few_ag HFA.out)
  go_wp2_with fail
  refine (print_any B w3 _ a (HL0.out.below HB3.out h4) hz3 (IsRecs.below wishK HA.out HB3.out HBX.out) HPF.out).mono ?_
  rintro e w4 ⟨rfl, hb⟩
  have HB4 : Hid (Below w.heap.size w w4) := Lib.hid (HB3.out.trans (hb.mono HB3.out.size))
  have hz4 : B ≤ w4.heap.size := Nat.le_trans hz3 hb.size
  clear hb
  have HZP := Lib.hid (zprint_any B w4 _ a hz4 (IsRecs.below wishK HA.out HB4.out HBX.out) HPF.out HAG.out)
  obtain ⟨PS, hPS⟩ : ∃ p, prS a = p := ⟨_, rfl⟩
  obtain ⟨PE, hPE⟩ : ∃ p, prE a = p := ⟨_, rfl⟩
  rw [hPS, hPE] at HZP ⊢
  obtain ⟨y, hy⟩ : ∃ y : ByteArray, strV PS = .string y := ⟨_, rfl⟩
  rw [hy] at HZP ⊢
  clear hPS hPE hy
  go_wp2_with fail
  refine HZP.out.mono ?_
  clear HZP
  rintro e w5 ⟨rfl, hb⟩
  have HB5 : Hid (Below w.heap.size w w5) := Lib.hid (HB4.out.trans (hb.mono HB4.out.size))
  have hz5 : B ≤ w5.heap.size := Nat.le_trans hz4 hb.size
  clear hb
  obtain ⟨sab, hsab⟩ : ∃ q, sameWs a b = q := ⟨_, rfl⟩
  have HSAB := Lib.hid hsab
  clear hsab
  go_wp2_with fail
  refine (same17_any B w5 _ _ a b hz5 (IsRecs.below wishK HA.out HB5.out HBX.out) (IsRecs.below wishK HB.out HB5.out HBX.out)).mono ?_
  rintro e w6 ⟨rfl, hb⟩
  have HB6 : Hid (Below w.heap.size w w6) := Lib.hid (HB5.out.trans (hb.mono HB5.out.size))
  have hz6 : B ≤ w6.heap.size := Nat.le_trans hz5 hb.size
  rw [HSAB.out]
  clear hb
  go_wp2_with fail
  refine (rsame17_any B w6 _ _ a b hz6 (IsRecs.below wishK HA.out HB6.out HBX.out) (IsRecs.below wishK HB.out HB6.out HBX.out)).mono ?_
  rintro e w7 ⟨rfl, hb⟩
  have HB7 : Hid (Below w.heap.size w w7) := Lib.hid (HB6.out.trans (hb.mono HB6.out.size))
  have hz7 : B ≤ w7.heap.size := Nat.le_trans hz6 hb.size
  rw [HSAB.out]
  clear hb
  go_wp2_with fail
  refine (same17_any B w7 _ _ a a hz7 (IsRecs.below wishK HA.out HB7.out HBX.out) (IsRecs.below wishK HA.out HB7.out HBX.out)).mono ?_
  rintro e w8 ⟨rfl, hb⟩
  have HB8 : Hid (Below w.heap.size w w8) := Lib.hid (HB7.out.trans (hb.mono HB7.out.size))
  rw [sameWs_selfZ]
  clear hb
  go_wp2
  go_ret
  exact ⟨by simp, HB8.out⟩
end Go.Proofs.YtfnmidddgjlipaaGreatDoor

/-
  What came in, opened: lists of records of any kind; strings, orders.
-/
set_option linter.unusedVariables false
set_option linter.unusedSimpArgs false
namespace Go.Proofs.YtfnmidddgjlipaaGreatDoor
open Go.ChangeShapes Go.WideShapes Go.ChangeAt Go.RowKit Go.Deep

theorem cell_spot {w : World} {a : Addr} {v : Value} (h : w.cell? a = some v) : a.spot = none ∧ a.block < w.heap.size := by
  unfold World.cell? at h
  split at h
  · rename_i c t x hc
    refine ⟨?_, (Array.getElem?_eq_some_iff.1 hc).1⟩
    cases hs : a.spot with
    | none => rfl
    | some n => simp [hs] at h
  · cases h
theorem I64.of_wf {n : Int} (h : (Lit.int .i64 n).wf = true) : I64 n := by
  simp [Lit.wf, IntKind.min, IntKind.max, IntKind.signed, IntKind.bits] at h
  unfold I64
  omega
variable {H : Type} {enc : TypeId × Value → H} {w : World}
theorem weightsAll_mem {P : Program} {e : TypeId} {d : DataW H} {n : Nat} : ∀ {l : List (DataW H)}, d ∈ l → n ∈ d.weights P e → n ∈ DataW.weightsAll P e l
  | [], h, _ => by cases h
  | x :: r, h, hn => by
    simp only [DataW.weightsAll, List.mem_append]
    rcases List.mem_cons.1 h with rfl | h
    · exact Or.inl hn
    · exact Or.inr (weightsAll_mem h hn)
/-- a list of records that came in -/
theorem open_recs {D : Type} {k : Nat} {R : Nat → World → List Value → D → Prop} {L bt : Nat} {d0 : D} {ty t : TypeId} (hR : RecK k R) (hk : 0 < k) (hu : Tryz.prog.underlying t = some (.slice ty)) (hC : Tryz.prog.cellsOf ty = k) (hb : Tryz.prog.bytesOf ty = bt) (hL : 140737488351232 < (L + 1) * bt)
    (ho : ∀ {fuel c x}, DataW.trod enc Tryz.prog w 0 (fun _ => true) true fuel ty c = some x → (∀ n ∈ x.1.weights Tryz.prog ty, n ≤ reachBytes) → ∃ d, R w.heap.size w c d)
    {fuel : Nat} {v : Value} {x : DataW H × List MemPlace} (h : DataW.trod enc Tryz.prog w 0 (fun _ => true) true fuel t [v] = some x) (hsz : ∀ n ∈ x.1.weights Tryz.prog t, n ≤ reachBytes) : ∃ xs, IsRecs k R L d0 w.heap.size w v xs := by
  rcases open_slice hu h with ⟨hv, rfl⟩ | ⟨a, len, cap, m, n, D', Pl, hv, _, hl, hm, hmm, rfl, hx⟩
  · cases hv
    exact ⟨[], IsRecs.nil⟩
  · cases hv
    simp only [if_true] at hmm
    subst hmm
    have h8 := hsz ((((List.range len).map D').length + ((List.range (m - len)).map fun j => D' (len + j)).length) * Tryz.prog.bytesOf ty) (by simp only [DataW.weights, hu]; exact List.mem_cons_self)
    rw [hb] at h8
    simp only [List.length_map, List.length_range] at h8
    unfold reachBytes at h8
    have hbt : 0 < bt := by
      rcases Nat.eq_zero_or_pos bt with e | e
      · subst e; omega
      · exact e
    have hlL : len ≤ L := by
      refine Nat.le_of_not_lt fun hlt => ?_
      have h9 : (L + 1) * bt ≤ (len + (m - len)) * bt := Nat.mul_le_mul_right _ (by omega)
      omega
    have hel : ∀ i, i < len → ∃ (d : D) (cs : List Value), (w.cells? 0 (a.add (i * k)) k = some cs) ∧ R w.heap.size w cs d := by
      intro i hi
      obtain ⟨cs', h1, h2⟩ := hx i (by omega)
      rw [hC] at h1
      obtain ⟨d, hd⟩ := ho h2 (fun n hn => hsz n (by
        simp only [DataW.weights, hu]
        exact List.mem_cons_of_mem _ (List.mem_append_left _ (weightsAll_mem (List.mem_map.2 ⟨i, List.mem_range.2 hi, rfl⟩) hn))))
      exact ⟨d, cs', h1, hd⟩
    haveI : Inhabited D := ⟨d0⟩
    obtain ⟨F, hF⟩ := choose_lt (α := D) (p := fun i d => ∃ cs, (w.cells? 0 (a.add (i * k)) k = some cs) ∧ R w.heap.size w cs d) (fun i hi => hel i hi)
    have hn : ((List.range len).map F).length = len := by simp
    have hsp : 0 < len → a.spot = none := by
      intro h0
      obtain ⟨d, cs, h1, _⟩ := hel 0 h0
      obtain ⟨_, h3, h2⟩ := World.cells?_some h1
      have h4 := h2 0 hk
      rw [List.getElem?_eq_getElem (by omega)] at h4
      simp [Addr.add] at h4
      exact (cell_spot h4).1
    refine ⟨(List.range len).map F, a.block, a.off, m, ⟨some a, by rw [hn], by omega, by unfold maxLen at hm; omega, ?_⟩, by omega, fun j hj => ?_⟩
    · by_cases h0 : len = 0
      · exact Or.inr (by omega)
      · left
        have := hsp (by omega)
        obtain ⟨b, o, sp⟩ := a
        simp at this
        rw [this]
    · rw [hn] at hj
      have h0 := hsp (by omega)
      obtain ⟨b, o, sp⟩ := a
      simp at h0
      subst h0
      obtain ⟨cs, h1, h2⟩ := hF j hj
      have hat : ((List.range len).map F).getD j d0 = F j := by
        rw [List.getD_eq_getElem?_getD]
        simp [hj]
      obtain ⟨_, h3, hc⟩ := World.cells?_some h1
      rw [add_plain] at hc
      rw [hat]
      refine ⟨cs, fun q u hq => ?_, h2⟩
      have hql : q < k := by have := (List.getElem?_eq_some_iff.1 hq).1; omega
      have h5 := hc q hql
      rw [add_plain, hq] at h5
      exact ⟨(cell_spot h5).2, h5⟩

theorem open_str1 {fuel : Nat} {c : List Value} {x : DataW H × List MemPlace} (h : DataW.trod enc Tryz.prog w 0 (fun _ => true) true fuel 9 c = some x)
    (hsz : ∀ n ∈ x.1.weights Tryz.prog 9, n ≤ reachBytes) : ∃ d, strR w.heap.size w c d := by
  obtain ⟨s, e1, hy, _⟩ := DataW.trod_string Tryz.underlying9 h
  have hb := str_bound (s := s) (d := x.1) (by rw [hy]) hsz
  exact ⟨s.data.toList, e1, by rw [Array.length_toList]; exact hb⟩
theorem open_strs0 {fuel : Nat} {v : Value} {x : DataW H × List MemPlace} (h : DataW.trod enc Tryz.prog w 0 (fun _ => true) true fuel 32 [v] = some x)
    (hsz : ∀ n ∈ x.1.weights Tryz.prog 32, n ≤ reachBytes) : ∃ xs, IsStrs w.heap.size w v xs :=
  open_recs strK (by decide) Tryz.underlying32 (by kernel_rfl) (by kernel_rfl) (bt := 16) (by decide) (fun h hs => open_str1 h hs) h hsz
set_option maxRecDepth 100000 in
theorem open_wishC {fuel : Nat} {c : List Value} {x : DataW H × List MemPlace} (h : DataW.trod enc Tryz.prog w 0 (fun _ => true) true fuel 34 c = some x)
    (hsz : ∀ n ∈ x.1.weights Tryz.prog 34, n ≤ reachBytes) : ∃ d, wishR w.heap.size w c d := by
  obtain ⟨xs, n, _, rfl, hl, hlen, hf⟩ := DataW.trod_struct Tryz.underlying34 h
  have hC : Tryz.prog.cellsOf 34 = 11 := by kernel_rfl
  have ki : Tryz.prog.cellsOf 3 = 1 := by kernel_rfl
  have ks : Tryz.prog.cellsOf 9 = 1 := by kernel_rfl
  have kb : Tryz.prog.cellsOf 4 = 1 := by kernel_rfl
  have kl : Tryz.prog.cellsOf 32 = 1 := by kernel_rfl
  rw [hC] at hl
  match xs, hlen, c, hl with
  | [y0, y1, y2, y3, y4, y5, y6, y7, y8, y9, y10], _, [v0, v1, v2, v3, v4, v5, v6, v7, v8, v9, v10], _ =>
    have h0 := hf 0 _ rfl
    have h1 := hf 1 _ rfl
    have h2 := hf 2 _ rfl
    have h3 := hf 3 _ rfl
    have h4 := hf 4 _ rfl
    have h5 := hf 5 _ rfl
    have h6 := hf 6 _ rfl
    have h7 := hf 7 _ rfl
    have h8 := hf 8 _ rfl
    have h9 := hf 9 _ rfl
    have h10 := hf 10 _ rfl
    simp only [ki, ks, kb, kl, List.drop_zero, List.drop_succ_cons, List.take_succ_cons, List.take_zero, List.getElem?_cons_zero, List.getElem?_cons_succ, Option.getD_some] at h0 h1 h2 h3 h4 h5 h6 h7 h8 h9 h10
    have hw : ∀ n ∈ DataW.weightsEach Tryz.prog [9, 9, 9, 9, 3, 3, 3, 3, 32, 4, 3] [y0.1, y1.1, y2.1, y3.1, y4.1, y5.1, y6.1, y7.1, y8.1, y9.1, y10.1], n ≤ reachBytes := by
      intro n hn
      refine hsz n ?_
      simp only [DataW.weights, Tryz.underlying34]
      exact hn
    obtain ⟨z0, e0, w0⟩ := open_str1 h0 (fun n hn => hw n (DataW.weights_mem_each (j := 0) (t := 9) rfl rfl n hn))
    obtain ⟨z1, e1, w1⟩ := open_str1 h1 (fun n hn => hw n (DataW.weights_mem_each (j := 1) (t := 9) rfl rfl n hn))
    obtain ⟨z2, e2, w2⟩ := open_str1 h2 (fun n hn => hw n (DataW.weights_mem_each (j := 2) (t := 9) rfl rfl n hn))
    obtain ⟨z3, e3, w3⟩ := open_str1 h3 (fun n hn => hw n (DataW.weights_mem_each (j := 3) (t := 9) rfl rfl n hn))
    obtain ⟨z4, e4, _, w4⟩ := DataW.trod_int Tryz.underlying3 h4
    obtain ⟨z5, e5, _, w5⟩ := DataW.trod_int Tryz.underlying3 h5
    obtain ⟨z6, e6, _, w6⟩ := DataW.trod_int Tryz.underlying3 h6
    obtain ⟨z7, e7, _, w7⟩ := DataW.trod_int Tryz.underlying3 h7
    obtain ⟨z8, w8⟩ := open_strs0 h8 (fun n hn => hw n (DataW.weights_mem_each (j := 8) (t := 32) rfl rfl n hn))
    obtain ⟨z9, e9, _⟩ := DataW.trod_bool Tryz.underlying4 h9
    obtain ⟨z10, e10, _, w10⟩ := DataW.trod_int Tryz.underlying3 h10
    cases e0
    cases e1
    cases e2
    cases e3
    cases e4
    cases e5
    cases e6
    cases e7
    cases e9
    cases e10
    exact ⟨⟨z0, z1, z2, z3, z4, z5, z6, z7, z8, z9, z10⟩, v8, rfl, w8, w0, w1, w2, w3, I64.of_wf w4, I64.of_wf w5, I64.of_wf w6, I64.of_wf w7, I64.of_wf w10⟩
theorem open_wishes0 {fuel : Nat} {v : Value} {x : DataW H × List MemPlace} (h : DataW.trod enc Tryz.prog w 0 (fun _ => true) true fuel 23 [v] = some x)
    (hsz : ∀ n ∈ x.1.weights Tryz.prog 23, n ≤ reachBytes) : ∃ xs, IsWishes w.heap.size w v xs :=
  open_recs wishK (by decide) Tryz.underlying23 (by kernel_rfl) (by kernel_rfl) (bt := 136) (by decide) (fun h hs => open_wishC h hs) h hsz

theorem open_IsWishes {v : Value} {d : DataW H} {p : List MemPlace} (hcs : v.cells.toList = [v]) (h : DataW.Trod enc Tryz.prog w 0 (fun _ => true) true 23 v d p)
    (hsz : ∀ n ∈ d.weights Tryz.prog 23, n ≤ reachBytes) : ∃ l, IsWishes w.heap.size w v l := by
  obtain ⟨fuel, hf⟩ := h
  rw [hcs] at hf
  exact open_wishes0 hf hsz
end Go.Proofs.YtfnmidddgjlipaaGreatDoor

/-
  SyntaxPrintSpec holds, and its card: for all arguments the law returns true, and the arguments read as before.
  Conditions: what the row lists of package-level variables; the card ties that to the program's text.
-/
set_option linter.unusedVariables false
set_option linter.unusedSimpArgs false
namespace Go.Proofs.YtfnmidddgjlipaaGreatDoor
open Go.ChangeShapes Go.WideShapes Go.ChangeAt Go.RowKit
open Go.ChangeMaps (open_string shut_string)

set_option maxRecDepth 100000 in
theorem syntaxPrintSpec_lifted (os : Os) (started : os.Started) (H : Type) (enc : TypeId × Value → H) :
    ReturnsInHanded {} Tryz.checked os 4 .any (fun w args => (Rows.syntaxPrintSpecSpec.pre enc Tryz.prog Tryz.f4 Rows.syntaxPrintSpecRow.domain false w args ∧ laidMetH Tryz.prog laid5 w) ∧ sizedMet enc Tryz.prog Tryz.f4 (OpenSpec.ofChange Rows.syntaxPrintSpecSpec) false w args)
      (Rows.syntaxPrintSpecSpec.post enc Tryz.prog Tryz.f4 false true false false) := by
  refine returnsInHanded_of_change_and (C := Tryz.checked) (X := fun w _ => laidMetH Tryz.prog laid5 w) (fun _ _ _ hh h => h.of_heap hh) seat_own started (by kernel_rfl) Tryz.func4
    (ChangeSpec.witness_shaped (enc := enc) (C := Tryz.checked) (os := os) (X := fun w _ => laidMetH Tryz.prog laid5 w) false (World.doorLaid Tryz.prog 400 os) #[.slice none 0 0, .slice none 0 0] 8 rfl (World.shaped_of_RefB (by kernel_rfl) (by kernel_rfl)) (by kernel_rfl) (by kernel_rfl) (by kernel_rfl) (door_met os _)) ?_
  intro W base args ds gs before hval0 hW _ hsz0 hL0 _
  have hsz : (DataW.weightsEach Tryz.prog (Tryz.f4.params.toList ++ Rows.syntaxPrintSpecSpec.plain.varTypes Tryz.prog) (ds ++ gs)).all (· ≤ reachBytes) = true := hsz0
  have hval : ∀ (j : Nat) t v, Tryz.f4.params[j]? = some t → args[j]? = some v → Value.okWide Tryz.prog W .any base t v := hval0
  have HL := laid_of hL0
  have hW' := hW
  obtain ⟨p, q, hA0, hV, rfl, hfz, hnd⟩ := hW
  have hA : DataW.TrodAll enc Tryz.prog W 0 (fun _ => true) true Tryz.f4.params.toList args.toList ds p := hA0
  rw [Tryz.params4] at hA hval hsz
  obtain ⟨v0, vs0, d0, ds0, p0, q0, e0, rfl, rfl, h0, r0⟩ := trodAll_cons hA
  obtain ⟨v1, vs1, d1, ds1, p1, q1, rfl, rfl, rfl, h1, r1⟩ := trodAll_cons r0
  obtain ⟨rfl, rfl, rfl⟩ := trodAll_nil r1
  obtain rfl : args = #[v0, v1] := by cases args; simp_all
  obtain ⟨rfl, rfl⟩ := trodVars_none hV
  have hw : ∀ n ∈ DataW.weightsEach Tryz.prog [23, 23] [d0, d1], n ≤ reachBytes := by
    intro n hn
    have := List.all_eq_true.1 hsz n hn
    simpa using this
  obtain ⟨a_a, l_a, c_a, rfl⟩ := okWide_slice Tryz.underlying23 (hval 0 23 v0 rfl rfl)
  obtain ⟨a, h_a⟩ := open_IsWishes rfl h0 (fun n hn => hw n (DataW.weights_mem_each (j := 0) (t := 23) rfl rfl n hn))
  obtain ⟨a_b, l_b, c_b, rfl⟩ := okWide_slice Tryz.underlying23 (hval 1 23 v1 rfl rfl)
  obtain ⟨b, h_b⟩ := open_IsWishes rfl h1 (fun n hn => hw n (DataW.weights_mem_each (j := 1) (t := 23) rfl rfl n hn))
  have hlt := hW'.lt
  simp only [List.append_nil] at hW' hlt
  refine (syntaxPrintSpec_any W.heap.size _ _ a b W HL (Nat.le_refl _) h_a h_b).mono fun e W' ⟨he, hb⟩ => ?_
  subst he
  refine ⟨_, rfl, _, _, _, [], p0 ++ (p1 ++ []), [], hW', trodAll_mk1 (shut_bool Tryz.underlying4 _), ?_, rfl, hb.frame _, fun h => by cases h⟩
  exact trodAll_cons_mk (hb.trod seat_laidOut (by kernel_rfl) (of_decide_eq_true (by kernel_rfl)) h0 (fun x hx => hlt x (by simp [hx]))) 
    (trodAll_cons_mk (hb.trod seat_laidOut (by kernel_rfl) (of_decide_eq_true (by kernel_rfl)) h1 (fun x hx => hlt x (by simp [hx]))) trodAll_mk0)

theorem syntaxPrintSpec_row : Rows.SyntaxPrintSpecSaid :=
  OpenClaim.holds_of_wide 4 Tryz.f4 rfl rfl rfl rfl rfl rfl rfl ⟨rfl, rfl, rfl, rfl, rfl⟩ rfl rfl rfl rfl rfl (by kernel_rfl) Tryz.func4 (by kernel_rfl)
    (of_decide_eq_true (by kernel_rfl)) (by unfold Func.isWrapper; first | (rw [if_pos (by decide +kernel)]; kernel_rfl) | (rw [if_neg (by decide +kernel)]; exact ⟨rfl, rfl⟩))
    (fun os started H enc _ => syntaxPrintSpec_lifted os started H enc)

theorem syntaxPrintSpec_holds : Rows.SyntaxPrintSpecCardSaid :=
  Claim7.holds_tied_plain_at .later [] [.data, .data, .data, .sentinel, .sentinel] true (true, "c4cbd6692179a2e09c7fd0ab04f7281558dc4827acab079e7c10e7f41c04d4a5") true
    syntaxPrintSpec_row (fun _ h => by cases h) (by kernel_rfl) (fun _ h => by cases h) syntaxPrintSpec_row_tie rfl ⟨rfl, rfl⟩ (by kernel_rfl) rfl
    (fun f fn hf hfn => by
      obtain rfl : f = 4 := Option.some.inj ((show Tryz.prog.funcNamed Rows.syntaxPrintSpecRow.func = some 4 by kernel_rfl).symm.trans hf) |>.symm
      obtain rfl : fn = Tryz.f4 := (Option.some.inj (Tryz.func4.symm.trans hfn)).symm
      exact ⟨by kernel_rfl, fun j t ht => by
        rw [Tryz.params4] at ht
        have hm : t ∈ [23, 23] := by simpa using Array.mem_of_getElem? ht
        have hall : ([23, 23].all fun u => !Tryz.prog.wantsStandIn u) = true := by kernel_rfl
        exact (show Tryz.prog.wantsStandIn t = false by simpa using List.all_eq_true.1 hall t hm)⟩)
    (by kernel_rfl)

end Go.Proofs.YtfnmidddgjlipaaGreatDoor
