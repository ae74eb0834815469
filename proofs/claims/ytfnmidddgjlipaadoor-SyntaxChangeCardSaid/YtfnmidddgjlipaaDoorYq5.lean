/-
  SyntaxChange holds, and its card: for all arguments the law returns true, and the arguments read as before.
  Conditions: what the row lists of package-level variables; the card ties that to the program's text.
-/
import Derived.Test.YtfnmidddgjlipaaDoorLx4
import Derived.Test.YtfnmidddgjlipaaDoorLx15
import Derived.Laws.IdiomStrings
import Derived.Lib.SmallJoins
import Derived.Test.YtfnmidddgjlipaaDoorLd
import Derived.Deep.Slices
import Derived.Deep.Strs
import Derived.Test.YtfnmidddgjlipaaDoorY13
import Derived.Test.YtfnmidddgjlipaaDoorY21
import Derived.Test.YtfnmidddgjlipaaDoorCards
import Derived.Test.YtfnmidddgjlipaaDoorTie
import Derived.SevenTiedAt
/-
  Layer 3: frankingref03: Letter, Figure, part, Space, Sign, Name.
-/
set_option linter.unusedVariables false
set_option linter.unusedSimpArgs false
namespace Go.Proofs.YtfnmidddgjlipaaDoor
open Go.RowKit

set_option maxHeartbeats 1000000 in
set_option maxRecDepth 100000 in
theorem rletter_any (c : UInt8) (w : World) : Calls Tryd.prog 55 #[.int .u8 (c.toNat : Int)] w fun e w' => e = .returned (.bool (isLet c)) ∧ w' = w := by
  have h255 : (c.toNat : Int) < 256 := by have := c.toNat_lt; omega
  by_cases a1 : (97 : Int) ≤ (c.toNat : Int) <;> by_cases a2 : (c.toNat : Int) ≤ (122 : Int) <;> by_cases a3 : (65 : Int) ≤ (c.toNat : Int) <;> by_cases a4 : (c.toNat : Int) ≤ (90 : Int)
  all_goals
    first
    | (exfalso; omega)
    | (go_enter Tryd.func55, Tryd.ntmps55
       go_wp2
       go_ret
       refine ⟨ret_bool' ?_, rfl⟩
       unfold isLet
       simp
       omega)

set_option maxHeartbeats 1000000 in
set_option maxRecDepth 100000 in
theorem rfigure_any (c : UInt8) (w : World) : Calls Tryd.prog 68 #[.int .u8 (c.toNat : Int)] w fun e w' => e = .returned (.bool (isDig c)) ∧ w' = w := by
  have h255 : (c.toNat : Int) < 256 := by have := c.toNat_lt; omega
  by_cases a1 : (48 : Int) ≤ (c.toNat : Int) <;> by_cases a2 : (c.toNat : Int) ≤ (57 : Int)
  all_goals
    first
    | (exfalso; omega)
    | (go_enter Tryd.func68, Tryd.ntmps68
       go_wp2
       go_ret
       refine ⟨ret_bool' ?_, rfl⟩
       unfold isDig
       simp
       omega)

set_option maxHeartbeats 4000000 in
set_option maxRecDepth 100000 in
theorem rpart_any (c : UInt8) (w : World) : Calls Tryd.prog 56 #[.int .u8 (c.toNat : Int)] w fun e w' => e = .returned (.bool (isPart c)) ∧ w' = w := by
  have h255 : (c.toNat : Int) < 256 := by have := c.toNat_lt; omega
  have HP : Hid (isPart c = (isLet c || isDig c || decide (c.toNat = 95))) := Lib.hid rfl
  cases h1 : isLet c with
  | true =>
    have HQ : Hid (isPart c = true) := Lib.hid (by rw [HP.out, h1]; rfl)
    have H1 := Lib.hid h1
    clear h1
    go_enter Tryd.func56, Tryd.ntmps56
    go_wp2_with fail
    refine (rletter_any c w).mono ?_
    rintro e w1 ⟨rfl, rfl⟩
    rw [H1.out]
    go_wp2
    go_ret
    exact ⟨ret_bool' HQ.out, rfl⟩
  | false =>
    have H1 := Lib.hid h1
    cases h2 : isDig c with
    | true =>
      have HQ : Hid (isPart c = true) := Lib.hid (by rw [HP.out, h1, h2]; rfl)
      have H2 := Lib.hid h2
      clear h1 h2
      go_enter Tryd.func56, Tryd.ntmps56
      go_wp2_with fail
      refine (rletter_any c w).mono ?_
      rintro e w1 ⟨rfl, rfl⟩
      rw [H1.out]
      go_wp2_with fail
      refine (rfigure_any c w1).mono ?_
      rintro e w2 ⟨rfl, rfl⟩
      rw [H2.out]
      go_wp2
      go_ret
      exact ⟨ret_bool' HQ.out, rfl⟩
    | false =>
      have H2 := Lib.hid h2
      have HQ : Hid (isPart c = decide (c.toNat = 95)) := Lib.hid (by rw [HP.out, h1, h2]; rfl)
      clear h1 h2
      go_enter Tryd.func56, Tryd.ntmps56
      go_wp2_with fail
      refine (rletter_any c w).mono ?_
      rintro e w1 ⟨rfl, rfl⟩
      rw [H1.out]
      go_wp2_with fail
      refine (rfigure_any c w1).mono ?_
      rintro e w2 ⟨rfl, rfl⟩
      rw [H2.out]
      by_cases a1 : (c.toNat : Int) = 95
      · go_wp2
        go_ret
        exact ⟨ret_bool' (HQ.out.trans (by simp; omega)), rfl⟩
      · go_wp2
        go_ret
        exact ⟨ret_bool' (HQ.out.trans (by rw [beq_false_of_ne a1]; exact decide_eq_false (by omega))), rfl⟩

set_option maxHeartbeats 1000000 in
set_option maxRecDepth 100000 in
theorem rsign_any (c : UInt8) (w : World) : Calls Tryd.prog 32 #[.int .u8 (c.toNat : Int)] w fun e w' => e = .returned (.bool (isSgn c)) ∧ w' = w := by
  have h255 : (c.toNat : Int) < 256 := by have := c.toNat_lt; omega
  go_enter Tryd.func32, Tryd.ntmps32
  go_wp2
  obtain ⟨sg, hsg⟩ : ∃ sg, (⟨#[123, 125, 40, 41, 59, 44, 61, 58, 46, 60, 62, 33, 43, 45, 42, 47]⟩ : ByteArray) = sg := ⟨_, rfl⟩
  have HD : Hid (sg.data.toList = signL) := Lib.hid (by rw [← hsg]; rfl)
  have hsz : sg.size = 16 := by rw [← hsg]; rfl
  have HG := Lib.hid (fun k (hk : k < sg.size) => data_get hk)
  rw [hsg]
  clear hsg
  go_loop [4] (fun i => ∃ k : Nat, k ≤ 16 ∧ i = .int .i64 k ∧ ∀ j, j < k → signL[j]? ≠ some c) (fun i => 16 - (intOf i).toNat)
  case atStart => exact ⟨0, Nat.zero_le _, rfl, fun j hj => by omega⟩
  case round =>
    obtain ⟨k, hk, rfl, hall⟩ := hrel
    have HA := Lib.hid hall
    clear hall
    by_cases hlt : k < 16
    · have hlt2 : k < sg.size := by omega
      have HK := Lib.hid (HG.out k hlt2)
      by_cases he : sg[k] = c
      · have HS : Hid (isSgn c = true) := Lib.hid (by
          unfold isSgn
          rw [List.contains_iff_mem]
          rw [HD.out, he] at HK
          exact List.mem_of_getElem? HK.out)
        have he2 : ((sg[k].toNat : Int)) = (c.toNat : Int) := by rw [he]
        clear he
        go_wp2
        go_ret
        exact ⟨ret_bool' HS.out, rfl⟩
      · have he2 : ¬ ((sg[k].toNat : Int)) = (c.toNat : Int) := fun h => he (UInt8.toNat_inj.1 (by omega))
        have HE := Lib.hid he
        clear he
        go_wp2
        go_round
        case rel =>
          refine ⟨k + 1, by omega, by go_num, fun j hj hd => ?_⟩
          by_cases hjk : j < k
          · exact HA.out j hjk hd
          · obtain rfl : j = k := by omega
            have := HK.out
            rw [HD.out, hd] at this
            exact HE.out (Option.some.inj this).symm
        case measure => simp [intOf]; omega
    · obtain rfl : k = 16 := by omega
      have HS : Hid (isSgn c = false) := Lib.hid (by
        unfold isSgn
        rw [Bool.eq_false_iff]
        intro h
        obtain ⟨i, hi, hh⟩ := List.mem_iff_getElem.1 (List.contains_iff_mem.1 h)
        exact HA.out i hi (by rw [List.getElem?_eq_getElem hi, hh]))
      go_wp2
      go_ret
      exact ⟨ret_bool' HS.out, rfl⟩

set_option maxHeartbeats 1000000 in
set_option maxRecDepth 100000 in
theorem rname_any (s : ByteArray) (w : World) (hs : s.size ≤ 9223372036854775806) : Calls Tryd.prog 31 #[.string s] w fun e w' => e = .returned (.bool (nameB s.data.toList)) ∧ w' = w := by
  by_cases h0 : s.size = 0
  · obtain rfl := str_zero h0
    clear h0 hs
    go_enter Tryd.func31, Tryd.ntmps31
    go_wp2
    go_ret
    exact ⟨rfl, rfl⟩
  · have h1 : (1 : Int) ≤ (s.size : Int) := by omega
    by_cases h32 : 32 < s.size
    · have HB := Lib.hid (nameB_big (l := s.data.toList) (by rw [size_data]; exact h32))
      have h33 : (32 : Int) < (s.size : Int) := by omega
      go_enter Tryd.func31, Tryd.ntmps31
      go_wp2
      go_ret
      exact ⟨ret_bool' HB.out, rfl⟩
    · have hpos : 0 < s.size := by omega
      have h33 : (s.size : Int) ≤ 32 := by omega
      have HG := Lib.hid (fun k (hk : k < s.size) => data_get hk)
      go_enter Tryd.func31, Tryd.ntmps31
      go_wp2_with fail
      refine (rletter_any s[0] w).mono ?_
      rintro e w1 ⟨rfl, rfl⟩
      cases hc : isLet s[0] with
      | false =>
        have HB := Lib.hid (nameB_first (HG.out 0 hpos) hc)
        clear hc
        go_wp2
        go_ret
        exact ⟨ret_bool' HB.out, rfl⟩
      | true =>
        have HC := Lib.hid hc
        clear hc
        go_wp2
        go_loop [3] (fun i => ∃ k : Nat, k ≤ s.size ∧ i = .int .i64 k ∧ ∀ j, j < k → ∀ d, s.data.toList[j]? = some d → isPart d = true) (fun i => s.size - (intOf i).toNat)
        case atStart => exact ⟨0, Nat.zero_le _, rfl, fun j hj => by omega⟩
        case round =>
          obtain ⟨k, hk, rfl, hall⟩ := hrel
          have HA := Lib.hid hall
          clear hall
          by_cases hlt : k < s.size
          · go_wp2_with fail
            refine (rpart_any s[k] w1).mono ?_
            rintro e w2 ⟨rfl, rfl⟩
            cases f : isPart s[k] with
            | true =>
              have HF := Lib.hid f
              clear f
              go_wp2
              go_round
              case rel =>
                refine ⟨k + 1, by omega, by go_num, fun j hj d hd => ?_⟩
                by_cases hjk : j < k
                · exact HA.out j hjk d hd
                · obtain rfl : j = k := by omega
                  rw [HG.out j hlt] at hd
                  cases hd
                  exact HF.out
              case measure => simp [intOf]; omega
            | false =>
              have HB := Lib.hid (nameB_bad (HG.out k hlt) f)
              clear f
              go_wp2
              go_ret
              exact ⟨ret_bool' HB.out, rfl⟩
          · have HB := Lib.hid (nameB_ok (HG.out 0 hpos) HC.out (by rw [size_data]; omega) (fun j hj d hd => HA.out j (by rw [size_data] at hj; omega) d hd))
            go_wp2
            go_ret
            exact ⟨ret_bool' HB.out, rfl⟩
end Go.Proofs.YtfnmidddgjlipaaDoor

/-
  Layer 3: frankingref03: Valid, Decimal.
-/
set_option linter.unusedVariables false
set_option linter.unusedSimpArgs false
namespace Go.Proofs.YtfnmidddgjlipaaDoor
open Go.RowKit

set_option maxHeartbeats 1000000 in
set_option maxRecDepth 100000 in
theorem rvalid_any (t : Tok) (w : World) (ht : okT t) : Calls Tryd.prog 15 #[tokV t] w fun e w' => e = .returned (.bool (validB t)) ∧ Below w.heap.size w w' := by
  obtain ⟨k, x, n, p⟩ := t
  obtain ⟨⟨k1, k2⟩, hx, ⟨n1, n2⟩, ⟨p1, p2⟩⟩ := ht
  simp only at k1 k2 hx n1 n2 p1 p2
  have hsz := len_mk x
  have HSZ := Lib.hid hsz
  have HBX := Lib.hid (box_below' w (.cells #[.int .i64 k, strV x, .int .i64 n, .int .i64 p] 37))
  have hlt : x.length ≤ 9223372036854775806 := by omega
  clear hsz
  unfold strV at *
  by_cases hk1 : k = 1
  · subst hk1
    cases hb : nameB x
    · have HV : Hid (validB ⟨1, x, n, p⟩ = false) := Lib.hid (by simp [validB, hb])
      go_enter Tryd.func15, Tryd.ntmps15
      go_wp2_with (go_at_call 31; refine (rname_any _ _ ?_).mono ?_; (rw [HSZ.out]; exact hlt); rintro e w' ⟨rfl, rfl⟩)
      go_ret
      exact ⟨ret_bool' HV.out, HBX.out⟩
    · by_cases hn : n = 0
      · subst hn
        have HV : Hid (validB ⟨1, x, 0, p⟩ = true) := Lib.hid (by simp [validB, hb])
        go_enter Tryd.func15, Tryd.ntmps15
        go_wp2_with (go_at_call 31; refine (rname_any _ _ ?_).mono ?_; (rw [HSZ.out]; exact hlt); rintro e w' ⟨rfl, rfl⟩)
        go_ret
        exact ⟨ret_bool' HV.out, HBX.out⟩
      · have hn' : (n == 0) = false := by simpa using hn
        have HV : Hid (validB ⟨1, x, n, p⟩ = false) := Lib.hid (by simp [validB, hb, hn])
        clear hn
        go_enter Tryd.func15, Tryd.ntmps15
        go_wp2_with (go_at_call 31; refine (rname_any _ _ ?_).mono ?_; (rw [HSZ.out]; exact hlt); rintro e w' ⟨rfl, rfl⟩)
        go_ret
        exact ⟨ret_bool' HV.out, HBX.out⟩
  · have hk1' : (k == 1) = false := by simpa using hk1
    by_cases hk2 : k = 2
    · subst hk2
      clear hk1 hk1'
      by_cases hx0 : x = []
      · subst hx0
        by_cases hn0 : 0 ≤ n
        · by_cases hn1 : n ≤ 1099511627776
          · have HV : Hid (validB ⟨2, [], n, p⟩ = true) := Lib.hid (by simp [validB, hn0, hn1])
            go_enter Tryd.func15, Tryd.ntmps15
            go_wp2
            go_ret
            exact ⟨ret_bool' HV.out, HBX.out⟩
          · have HV : Hid (validB ⟨2, [], n, p⟩ = false) := Lib.hid (by simp [validB]; omega)
            go_enter Tryd.func15, Tryd.ntmps15
            go_wp2
            go_ret
            exact ⟨ret_bool' HV.out, HBX.out⟩
        · have HV : Hid (validB ⟨2, [], n, p⟩ = false) := Lib.hid (by simp [validB]; omega)
          go_enter Tryd.func15, Tryd.ntmps15
          go_wp2
          go_ret
          exact ⟨ret_bool' HV.out, HBX.out⟩
      · have HV : Hid (validB ⟨2, x, n, p⟩ = false) := Lib.hid (by simp [validB, hx0])
        obtain ⟨hE1, hE2⟩ := str_ne (s := ⟨x.toArray⟩) (by rw [HSZ.out]; exact List.length_pos_iff.2 hx0)
        go_enter Tryd.func15, Tryd.ntmps15
        go_wp2
        go_ret
        exact ⟨ret_bool' HV.out, HBX.out⟩
    · have hk2' : (k == 2) = false := by simpa using hk2
      by_cases hk3 : k = 3
      · subst hk3
        clear hk1 hk2 hk1' hk2'
        by_cases hl : x.length = 1
        · obtain ⟨c, rfl⟩ := List.length_eq_one_iff.1 hl
          clear hl
          cases h5 : isSgn c
          · have HV : Hid (validB ⟨3, [c], n, p⟩ = false) := Lib.hid (by simp [validB, h5])
            have h5' := h5
            go_enter Tryd.func15, Tryd.ntmps15
            go_wp2_with (go_at_call 32; refine (rsign_any c _).mono ?_; rintro e w' ⟨rfl, rfl⟩)
            go_ret
            exact ⟨ret_bool' HV.out, HBX.out⟩
          · by_cases hn : n = 0
            · subst hn
              have HV : Hid (validB ⟨3, [c], 0, p⟩ = true) := Lib.hid (by simp [validB, h5])
              go_enter Tryd.func15, Tryd.ntmps15
              go_wp2_with (go_at_call 32; refine (rsign_any c _).mono ?_; rintro e w' ⟨rfl, rfl⟩)
              go_ret
              exact ⟨ret_bool' HV.out, HBX.out⟩
            · have HV : Hid (validB ⟨3, [c], n, p⟩ = false) := Lib.hid (by simp [validB, hn])
              have hn' : (n == 0) = false := by simpa using hn
              clear hn
              go_enter Tryd.func15, Tryd.ntmps15
              go_wp2_with (go_at_call 32; refine (rsign_any c _).mono ?_; rintro e w' ⟨rfl, rfl⟩)
              go_ret
              exact ⟨ret_bool' HV.out, HBX.out⟩
        · have HV : Hid (validB ⟨3, x, n, p⟩ = false) := Lib.hid (by
            match x, hl with
            | [], _ => rfl
            | a :: b :: r, _ => rfl)
          have hl1 : ((x.length : Int) == 1) = false := by simp; omega
          have hl2 : (((⟨x.toArray⟩ : ByteArray).size : Int) == 1) = false := by rw [HSZ.out]; exact hl1
          clear hl
          go_enter Tryd.func15, Tryd.ntmps15
          go_wp2
          go_ret
          exact ⟨ret_bool' HV.out, HBX.out⟩
      · have HV : Hid (validB ⟨k, x, n, p⟩ = false) := Lib.hid (by simp [validB, hk1, hk2, hk3])
        have hk3' : (k == 3) = false := by simpa using hk3
        clear hk1 hk2 hk3
        go_enter Tryd.func15, Tryd.ntmps15
        go_wp2
        go_ret
        exact ⟨ret_bool' HV.out, HBX.out⟩

end Go.Proofs.YtfnmidddgjlipaaDoor

/-
  What came in, opened: a token, tokens.
-/
set_option linter.unusedVariables false
set_option linter.unusedSimpArgs false
namespace Go.Proofs.YtfnmidddgjlipaaDoor
open Go.ChangeShapes Go.WideShapes Go.ChangeAt Go.RowKit Go.Deep

theorem cell_spot {w : World} {a : Addr} {v : Value} (h : w.cell? a = some v) : a.spot = none ∧ a.block < w.heap.size := by
  unfold World.cell? at h
  split at h
  · rename_i c t x hc
    refine ⟨?_, (Array.getElem?_eq_some_iff.1 hc).1⟩
    cases hs : a.spot with
    | none => rfl
    | some n => simp [hs] at h
  · cases h

theorem I64.of_wf {n : Int} (h : (Lit.int .i64 n).wf = true) : I64 n := by
  simp [Lit.wf, IntKind.min, IntKind.max, IntKind.signed, IntKind.bits] at h
  unfold I64
  omega

variable {H : Type} {enc : TypeId × Value → H} {w : World}

theorem weightsAll_mem {P : Program} {e : TypeId} {d : DataW H} {n : Nat} : ∀ {l : List (DataW H)}, d ∈ l → n ∈ d.weights P e → n ∈ DataW.weightsAll P e l
  | [], h, _ => by cases h
  | x :: r, h, hn => by
    simp only [DataW.weightsAll, List.mem_append]
    rcases List.mem_cons.1 h with rfl | h
    · exact Or.inl hn
    · exact Or.inr (weightsAll_mem h hn)

set_option maxRecDepth 100000 in
theorem open_tokC {fuel : Nat} {c : List Value} {x : DataW H × List MemPlace} (h : DataW.trod enc Tryd.prog w 0 (fun _ => true) true fuel 37 c = some x)
    (hsz : ∀ n ∈ x.1.weights Tryd.prog 37, n ≤ reachBytes) : ∃ t : Tok, c = tokC t ∧ okT t := by
  obtain ⟨y0, y1, y2, y3, n, rfl, hl, h0, h1, h2, h3⟩ := Go.Joins.trod_struct4 Tryd.underlying37 h
  have hC : Tryd.prog.cellsOf 37 = 4 := by kernel_rfl
  have k0 : Tryd.prog.cellsOf 3 = 1 := by kernel_rfl
  have k1 : Tryd.prog.cellsOf 9 = 1 := by kernel_rfl
  rw [hC] at hl
  match c, hl with
  | [va, vb, vc, vd], _ =>
    simp only [k0, k1, List.drop_zero, List.drop_succ_cons, List.take_succ_cons, List.take_zero] at h0 h1 h2 h3
    obtain ⟨a, e0, _, w0⟩ := DataW.trod_int Tryd.underlying3 h0
    obtain ⟨s, e1, hy, _⟩ := DataW.trod_string Tryd.underlying9 h1
    obtain ⟨b, e2, _, w2⟩ := DataW.trod_int Tryd.underlying3 h2
    obtain ⟨d, e3, _, w3⟩ := DataW.trod_int Tryd.underlying3 h3
    cases e0; cases e1; cases e2; cases e3
    have hw : ∀ n ∈ DataW.weightsEach Tryd.prog [3, 9, 3, 3] [y0.1, y1.1, y2.1, y3.1], n ≤ reachBytes := by
      intro n hn
      refine hsz n ?_
      simp only [DataW.weights, Tryd.underlying37]
      exact hn
    have hb := str_bound (s := s) (d := y1.1) (by rw [hy]) (fun n hn => hw n (DataW.weights_mem_each (j := 1) (t := 9) rfl rfl n hn))
    exact ⟨⟨a, s.data.toList, b, d⟩, rfl, I64.of_wf w0, by show s.data.toList.length ≤ _; rw [Array.length_toList]; exact hb, I64.of_wf w2, I64.of_wf w3⟩

theorem open_toks {fuel : Nat} {v : Value} {x : DataW H × List MemPlace} (h : DataW.trod enc Tryd.prog w 0 (fun _ => true) true fuel 33 [v] = some x)
    (hsz : ∀ n ∈ x.1.weights Tryd.prog 33, n ≤ reachBytes) : ∃ ts, IsToks w.heap.size w v ts := by
  have hC : Tryd.prog.cellsOf 37 = 4 := by kernel_rfl
  have hb : Tryd.prog.bytesOf 37 = 40 := by kernel_rfl
  rcases open_slice Tryd.underlying33 h with ⟨hv, rfl⟩ | ⟨a, len, cap, m, n, D, Pl, hv, _, hl, hm, hmm, rfl, hx⟩
  · cases hv
    exact ⟨[], IsToks.nil _ _⟩
  · cases hv
    simp only [if_true] at hmm
    subst hmm
    have h8 := hsz ((((List.range len).map D).length + ((List.range (m - len)).map fun j => D (len + j)).length) * Tryd.prog.bytesOf 37) (by simp only [DataW.weights, Tryd.underlying33]; exact List.mem_cons_self)
    rw [hb] at h8
    simp only [List.length_map, List.length_range] at h8
    unfold reachBytes at h8
    have hel : ∀ i, i < len → ∃ t : Tok, (w.cells? 0 (a.add (i * 4)) 4 = some (tokC t)) ∧ okT t := by
      intro i hi
      obtain ⟨cs', h1, h2⟩ := hx i (by omega)
      rw [hC] at h1
      obtain ⟨t, rfl, hd⟩ := open_tokC h2 (fun n hn => hsz n (by
        simp only [DataW.weights, Tryd.underlying33]
        exact List.mem_cons_of_mem _ (List.mem_append_left _ (weightsAll_mem (List.mem_map.2 ⟨i, List.mem_range.2 hi, rfl⟩) hn))))
      exact ⟨t, h1, hd⟩
    obtain ⟨L, hL⟩ := choose_lt (α := Tok) (p := fun i t => (w.cells? 0 (a.add (i * 4)) 4 = some (tokC t)) ∧ okT t) (fun i hi => hel i hi)
    have hn : ((List.range len).map L).length = len := by simp
    have hsp : 0 < len → a.spot = none := by
      intro h0
      obtain ⟨t, h1, _⟩ := hel 0 h0
      have := (World.cells?_some h1).2.2 0 (by simp [tokC])
      simp [Addr.add, tokC] at this
      exact (cell_spot this).1
    refine ⟨(List.range len).map L, a.block, a.off, m, ⟨some a, by rw [hn], by omega, by unfold maxLen at hm; omega, ?_⟩, by omega, ?_, fun j hj => ?_⟩
    · by_cases h0 : len = 0
      · exact Or.inr (by omega)
      · left
        have := hsp (by omega)
        obtain ⟨b, o, sp⟩ := a
        simp at this
        rw [this]
    · intro t ht
      obtain ⟨i, hi, rfl⟩ := List.mem_map.1 ht
      exact (hL i (List.mem_range.1 hi)).2
    · rw [hn] at hj
      have h0 := hsp (by omega)
      obtain ⟨b, o, sp⟩ := a
      simp at h0
      subst h0
      obtain ⟨h1, h2⟩ := hL j hj
      have hat : tokAt ((List.range len).map L) j = L j := by
        unfold tokAt
        rw [List.getD_eq_getElem?_getD]
        simp [hj]
      have hc := (World.cells?_some h1).2.2
      rw [add_plain] at hc
      have c0 := hc 0 (by simp [tokC])
      have c1 := hc 1 (by simp [tokC])
      have c2 := hc 2 (by simp [tokC])
      have c3 := hc 3 (by simp [tokC])
      rw [add_plain] at c0 c1 c2 c3
      rw [hat]
      exact ⟨⟨(cell_spot c0).2, c0⟩, ⟨(cell_spot c1).2, c1⟩, ⟨(cell_spot c2).2, c2⟩, ⟨(cell_spot c3).2, c3⟩⟩

set_option maxRecDepth 100000 in
theorem open_IsToks {r : Reach} {b0 : Nat} {v : Value} {d : DataW H} {p : List MemPlace} (hv : Value.okWide Tryd.prog w r b0 33 v) (h : DataW.Trod enc Tryd.prog w 0 (fun _ => true) true 33 v d p)
    (hsz : ∀ n ∈ d.weights Tryd.prog 33, n ≤ reachBytes) : ∃ ts, IsToks w.heap.size w v ts := by
  obtain ⟨fuel, hf⟩ := h
  obtain ⟨a, l, c, rfl⟩ := okWide_slice Tryd.underlying33 hv
  exact open_toks hf hsz
set_option maxRecDepth 100000 in
theorem open_IsTok {r : Reach} {b0 : Nat} {v : Value} {d : DataW H} {p : List MemPlace} (hv : Value.okWide Tryd.prog w r b0 37 v) (h : DataW.Trod enc Tryd.prog w 0 (fun _ => true) true 37 v d p)
    (hsz : ∀ n ∈ d.weights Tryd.prog 37, n ≤ reachBytes) : ∃ t : Tok, v = .agg (tokC t).toArray ∧ okT t := by
  obtain ⟨cs, rfl, hs⟩ := okWide_struct Tryd.underlying37 hv
  obtain ⟨fuel, hf⟩ := h
  obtain ⟨t, ht, ho⟩ := open_tokC hf hsz
  refine ⟨t, ?_, ho⟩
  obtain ⟨l⟩ := cs
  exact congrArg (fun l => Value.agg ⟨l⟩) ht
end Go.Proofs.YtfnmidddgjlipaaDoor

/-
  Layer 17, plain: the orders of two sources, one after the other.
-/
set_option linter.unusedVariables false
set_option linter.unusedSimpArgs false
namespace Go.Proofs.YtfnmidddgjlipaaDoor

theorem suffix_drop {α : Type} {r l : List α} (h : r <:+ l) : r = l.drop (l.length - r.length) := by
  obtain ⟨p, rfl⟩ := h
  simp
/-- tokens at other places: the same orders, the same wrong token -/
theorem read_map (g : Tok → Tok) (hg : ∀ t, erase (g t) = erase t) (l : List Tok) : pRead (l.map g) = match pRead l with
    | .error r => .error (r.map g)
    | .ok xs => .ok xs := by
  have h := eras_read (l := l.map g) (l' := l) (by rw [List.map_map]; congr 1; funext t; exact hg t)
  cases e1 : pRead (l.map g) with
  | error r1 =>
    cases e2 : pRead l with
    | error r2 =>
      rw [e1, e2] at h
      have hl : r1.length = r2.length := by have := congrArg List.length (show r1.map erase = r2.map erase from h); simpa using this
      have s1 := suffix_drop (read_end _ _ (Nat.le_refl _) _ e1)
      have s2 := suffix_drop (read_end _ _ (Nat.le_refl _) _ e2)
      simp only
      rw [s1, s2, List.length_map, hl, List.map_drop]
    | ok x2 => rw [e1, e2] at h; exact h.elim
  | ok x1 =>
    cases e2 : pRead l with
    | error r2 => rw [e1, e2] at h; exact h.elim
    | ok x2 => rw [e1, e2] at h; exact congrArg _ h
theorem parL_bad {s : List UInt8} (h : parE s ≠ 0) : parL s = [] := by
  unfold parE at h
  unfold parL
  by_cases h0 : lexE s = 0
  · rw [if_pos h0] at h ⊢
    unfold readE at h
    unfold readL
    cases e : pRead (lexT s) with
    | ok xs => rw [e] at h; exact absurd rfl h
    | error r => rfl
  · rw [if_neg h0]
theorem lex_out {s : List UInt8} (hs : s.length ≤ 65536) : (∃ i, (lexA s 0).2 = some i ∧ lexE s = 30 ∧ lexP s = i ∧ lexT s = []) ∨ ((lexA s 0).2 = none ∧ lexE s = 0 ∧ lexP s = 0 ∧ lexT s = (lexA s 0).1) := by
  have h : ¬ s.length > 65536 := by omega
  unfold lexE lexP lexT
  rw [if_neg h, if_neg h, if_neg h]
  cases e : (lexA s 0).2 with
  | none => right; simp
  | some i => left; exact ⟨i, rfl, by simp, by simp, by simp⟩
theorem joined_law {a b : List UInt8} (ha : a.length ≤ 2000) (hb : b.length ≤ 2000) (he : parE a = 0) :
    (parE b ≠ 0 → parE (a ++ 10 :: b) = parE b ∧ parP (a ++ 10 :: b) = parP b + a.length + 1 ∧ parL (a ++ 10 :: b) = []) ∧
    (parE b = 0 → parE (a ++ 10 :: b) = 0 ∧ parP (a ++ 10 :: b) = 0 ∧ parL (a ++ 10 :: b) = parL a ++ parL b) := by
  have hc : (a ++ 10 :: b).length ≤ 65536 := by simp; omega
  have hla : lexE a = 0 := by
    rcases lex_out (show a.length ≤ 65536 by omega) with ⟨i, h1, h2, h3, h4⟩ | ⟨h1, h2, _⟩
    · unfold parE at he; rw [if_neg (by rw [h2]; decide), h2] at he; cases he
    · exact h2
  obtain ⟨a1, a2, a3, a4⟩ : (lexA a 0).2 = none ∧ lexE a = 0 ∧ lexP a = 0 ∧ lexT a = (lexA a 0).1 := by
    rcases lex_out (show a.length ≤ 65536 by omega) with ⟨i, h1, h2, h3, h4⟩ | h
    · rw [h2] at hla; cases hla
    · exact h
  have hra : ∃ xs, pRead (lexT a) = .ok xs := by
    unfold parE at he
    rw [if_pos hla] at he
    unfold readE at he
    cases e : pRead (lexT a) with
    | ok xs => exact ⟨xs, rfl⟩
    | error r => rw [e] at he; cases he
  obtain ⟨xs, hxs⟩ := hra
  have hj := lexA_join b a 0
  rw [a1] at hj
  simp only at hj
  have hsh := lexA_shift (a.length + 1) b 0
  rw [show 0 + a.length + 1 = 0 + (a.length + 1) by omega, hsh] at hj
  have hLa : parL a = xs := by unfold parL readL; rw [if_pos hla, hxs]
  rcases lex_out (show b.length ≤ 65536 by omega) with ⟨i, b1, b2, b3, b4⟩ | ⟨b1, b2, b3, b4⟩
  · rw [b1] at hj
    simp only [Option.map_some] at hj
    have hpe : parE b = 30 := by unfold parE; rw [if_neg (by rw [b2]; decide), b2]
    have hpp : parP b = i := by unfold parP; rw [if_neg (by rw [b2]; decide), b3]
    rcases lex_out hc with ⟨k, c1, c2, c3, c4⟩ | ⟨c1, _⟩
    · rw [hj] at c1
      simp only [Option.some.injEq] at c1
      refine ⟨fun _ => ⟨?_, ?_, ?_⟩, fun h => by rw [hpe] at h; cases h⟩
      · unfold parE; rw [if_neg (by rw [c2]; decide), c2]; exact hpe.symm
      · unfold parP; rw [if_neg (by rw [c2]; decide), c3]
        unfold parP at hpp
        rw [hpp]
        omega
      · unfold parL; rw [if_neg (by rw [c2]; decide)]
    · rw [hj] at c1; cases c1
  · rw [b1] at hj
    simp only [Option.map_none] at hj
    rcases lex_out hc with ⟨k, c1, _⟩ | ⟨c1, c2, c3, c4⟩
    · rw [hj] at c1; cases c1
    have hT : lexT (a ++ 10 :: b) = lexT a ++ (lexT b).map (shiftT (a.length + 1)) := by rw [c4, hj, a4, b4]
    have hm := read_map (shiftT (a.length + 1)) (fun t => rfl) (lexT b)
    have hr := read_app _ (lexT a) ((lexT b).map (shiftT (a.length + 1))) xs (Nat.le_refl _) hxs
    rw [hm] at hr
    cases eb : pRead (lexT b) with
    | error r =>
      rw [eb] at hr
      simp only at hr
      have hpe : parE b = 170 := by unfold parE readE; rw [if_pos b2, eb]
      have hpp : parP b = placeOf b.length r := by unfold parP readP; rw [if_pos b2, eb]
      refine ⟨fun _ => ⟨?_, ?_, ?_⟩, fun h => by rw [hpe] at h; cases h⟩
      · unfold parE readE; rw [if_pos c2, hT, hr]; exact hpe.symm
      · unfold parP readP; rw [if_pos c2, hT, hr]
        unfold parP readP at hpp
        rw [hpp]
        cases r with
        | nil => simp [placeOf]; omega
        | cons t u => simp [placeOf, shiftT]; omega
      · unfold parL readL; rw [if_pos c2, hT, hr]
    | ok ys =>
      rw [eb] at hr
      simp only at hr
      have hpe : parE b = 0 := by unfold parE readE; rw [if_pos b2, eb]
      have hLb : parL b = ys := by unfold parL readL; rw [if_pos b2, eb]
      refine ⟨fun h => absurd hpe h, fun _ => ⟨?_, ?_, ?_⟩⟩
      · unfold parE readE; rw [if_pos c2, hT, hr]
      · unfold parP readP; rw [if_pos c2, hT, hr]
      · rw [hLa, hLb]; unfold parL readL; rw [if_pos c2, hT, hr]
theorem read_len : ∀ (n : Nat) (l : List Tok) (xs : List WishD), l.length ≤ n → pRead l = .ok xs → xs.length ≤ l.length
  | _, [], xs, _, h => by cases h; simp
  | 0, t :: u, xs, hn, h => by simp at hn
  | n + 1, t :: u, xs, hn, h => by
    rw [read_cons (by simp)] at h
    cases e : pOrder (t :: u) with
    | error s => rw [e] at h; cases h
    | ok v =>
      obtain ⟨x, r⟩ := v
      rw [e] at h
      simp only at h
      obtain ⟨t', u', he, hsf⟩ := order_some e
      injection he with _ he
      subst he
      have hlen := hsf.length_le
      simp only [List.length_cons] at hn
      cases e2 : pRead r with
      | error s => rw [e2] at h; cases h
      | ok ys =>
        rw [e2] at h
        cases h
        have := read_len n r ys (by omega) e2
        simp only [List.length_cons]
        omega
theorem lexT_short (l : List UInt8) : (lexT l).length ≤ l.length := by
  unfold lexT
  split
  · simp
  · split
    · exact lexA_len l 0
    · simp
theorem parL_len (s : List UInt8) : (parL s).length ≤ s.length := by
  unfold parL
  split
  · unfold readL
    cases e : pRead (lexT s) with
    | error r => simp
    | ok xs =>
      have := read_len _ _ _ (Nat.le_refl _) e
      have := lexT_short s
      simp only
      omega
  · simp
theorem lexA_posY (l : List UInt8) : ∀ at_ : Nat, ∀ t ∈ (lexA l at_).1, (at_ : Int) ≤ t.pos ∧ t.pos < (at_ : Int) + l.length := by
  refine lex_induct (P := fun l => ∀ at_ : Nat, ∀ t ∈ (lexA l at_).1, (at_ : Int) ≤ t.pos ∧ t.pos < (at_ : Int) + l.length) ?_ ?_ ?_ l
  · intro at_ t h; rw [lexA_nil] at h; cases h
  · intro l hl h at_ t ht; rw [lexA_bad hl h] at ht; cases ht
  · intro l k o h ih at_ t ht
    have h1 := step_pos h
    rw [lexA_step h] at ht
    have key : ∀ t ∈ (lexA (l.drop k) (at_ + k)).1, (at_ : Int) ≤ t.pos ∧ t.pos < (at_ : Int) + l.length := by
      intro t ht
      have := ih (at_ + k) t ht
      rw [List.length_drop] at this
      omega
    cases o with
    | none => exact key t ht
    | some u =>
      rcases List.mem_cons.1 ht with rfl | ht
      · simp only; omega
      · exact key t ht
theorem parP_bd {s : List UInt8} (hs : s.length ≤ 65536) : 0 ≤ parP s ∧ parP s ≤ s.length := by
  unfold parP
  rcases lex_out hs with ⟨i, h1, h2, h3, h4⟩ | ⟨h1, h2, h3, h4⟩
  · rw [if_neg (by rw [h2]; decide), h3]
    have := (lexA_err s 0 i h1).2.1
    omega
  · rw [if_pos h2]
    unfold readP
    cases e : pRead (lexT s) with
    | ok xs => simp
    | error r =>
      cases r with
      | nil => simp [placeOf]
      | cons t u =>
        have hm := (read_end _ _ (Nat.le_refl _) _ e).subset (List.mem_cons_self ..)
        rw [h4] at hm
        have := lexA_posY s 0 t hm
        simp only [placeOf]
        omega
end Go.Proofs.YtfnmidddgjlipaaDoor

/-
  Layer 17, plain: sources printed from tokens; a token cut off or changed.
-/
set_option linter.unusedVariables false
set_option linter.unusedSimpArgs false
namespace Go.Proofs.YtfnmidddgjlipaaDoor

theorem textL_ofY {l : List Tok} (hv : ∀ t ∈ l, validB t = true) : textL l = joinW (l.map txt) := by
  unfold textL
  rw [if_pos (by simpa using hv)]
theorem textE_ofY {l : List Tok} (hv : ∀ t ∈ l, validB t = true) : textE l = 0 := by
  unfold textE
  rw [if_pos (by simpa using hv)]
theorem valid_short {t : Tok} (hv : validB t = true) : t.text.length ≤ 1000 := by
  rcases valid_kind hv with hk | hk | hk
  · have := (valid_name hv hk).1
    match hx : t.text, this with
    | c :: r, this => simp only [nameB, Bool.and_eq_true, decide_eq_true_eq] at this; omega
  · rw [(valid_num hv hk).1]; simp
  · obtain ⟨c, hc, _⟩ := valid_sgn hv hk
    rw [hc]; simp
/-- tokens printed are the tokens, apart from their places -/
theorem text_lex {l : List Tok} (hv : ∀ t ∈ l, validB t = true) (hs : (textL l).length ≤ 65536) :
    lexE (textL l) = 0 ∧ (lexT (textL l)).map erase = l.map erase ∧ lexT (textL l) = (lexA (textL l) 0).1 := by
  have h := lexA_joinW l 0 hv
  rw [← textL_ofY hv] at h
  rcases lex_out hs with ⟨i, h1, _⟩ | ⟨h1, h2, h3, h4⟩
  · rw [h.2] at h1; cases h1
  · exact ⟨h2, by rw [h4]; exact h.1, h4⟩
theorem readE_eras {l l' : List Tok} (h : l.map erase = l'.map erase) : readE l = readE l' := by
  have := eras_read h
  unfold readE
  cases e : pRead l with
  | error r => cases e' : pRead l' with
    | error r' => rfl
    | ok x' => rw [e, e'] at this; exact this.elim
  | ok x => cases e' : pRead l' with
    | error r' => rw [e, e'] at this; exact this.elim
    | ok x' => rfl
theorem readL_eras {l l' : List Tok} (h : l.map erase = l'.map erase) : readL l = readL l' := by
  have := eras_read h
  unfold readL
  cases e : pRead l with
  | error r => cases e' : pRead l' with
    | error r' => rfl
    | ok x' => rw [e, e'] at this; exact this.elim
  | ok x => cases e' : pRead l' with
    | error r' => rw [e, e'] at this; exact this.elim
    | ok x' => rw [e, e'] at this; exact this
/-- a source printed from tokens parses as the tokens are read -/
theorem text_parse {l : List Tok} (hv : ∀ t ∈ l, validB t = true) (hs : (textL l).length ≤ 65536) :
    parE (textL l) = readE l ∧ parL (textL l) = readL l := by
  obtain ⟨h1, h2, _⟩ := text_lex hv hs
  unfold parE parL
  rw [if_pos h1, if_pos h1]
  exact ⟨readE_eras h2, readL_eras h2⟩
theorem parP_ok {s : List UInt8} (h : parE s = 0) : parP s = 0 := by
  unfold parE at h
  unfold parP
  by_cases h0 : lexE s = 0
  · rw [if_pos h0] at h ⊢
    unfold readE at h
    unfold readP
    cases e : pRead (lexT s) with
    | ok xs => rfl
    | error r => rw [e] at h; cases h
  · rw [if_neg h0] at h
    exact absurd h h0
theorem par_read {s : List UInt8} (hl : lexE s = 0) (h : parE s = 0) : ∃ xs, pRead (lexT s) = .ok xs := by
  unfold parE at h
  rw [if_pos hl] at h
  unfold readE at h
  cases e : pRead (lexT s) with
  | ok xs => exact ⟨xs, rfl⟩
  | error r => rw [e] at h; cases h
/-- what the parser says of printed tokens: nothing, or the place of the first wrong one -/
theorem text_wrong {l : List Tok} (hv : ∀ t ∈ l, validB t = true) (hs : (textL l).length ≤ 65536) :
    (parE (textL l) = 0 ∧ parP (textL l) = 0 ∧ ∃ xs, pRead l = .ok xs) ∨
    ∃ r, pRead l = .error r ∧ parE (textL l) = 170 ∧ parP (textL l) = placeOf (textL l).length ((lexT (textL l)).drop (l.length - r.length)) := by
  obtain ⟨h1, h2, _⟩ := text_lex hv hs
  have h := eras_read h2
  have hll : (lexT (textL l)).length = l.length := by have := congrArg List.length h2; simpa using this
  cases e : pRead l with
  | ok xs =>
    refine .inl ?_
    have hp : parE (textL l) = 0 := by rw [(text_parse hv hs).1]; unfold readE; rw [e]
    exact ⟨hp, parP_ok hp, xs, rfl⟩
  | error r =>
    refine .inr ⟨r, rfl, by rw [(text_parse hv hs).1]; unfold readE; rw [e], ?_⟩
    unfold parP readP
    rw [if_pos h1]
    cases e2 : pRead (lexT (textL l)) with
    | ok xs => rw [e, e2] at h; exact h.elim
    | error r2 =>
      rw [e, e2] at h
      have hl : r2.length = r.length := by have := congrArg List.length (show r2.map erase = r.map erase from h); simpa using this
      have s2 := suffix_drop (read_end _ _ (Nat.le_refl _) _ e2)
      simp only
      rw [s2, hl, hll]
theorem cut_law {L : List Tok} {xs : List WishD} (hv : ∀ t ∈ L, validB t = true) (h : pRead L = .ok xs) (k : Nat) (hs : (textL (L.take k)).length ≤ 65536) :
    (parE (textL (L.take k)) = 0 ∧ parP (textL (L.take k)) = 0) ∨ (parE (textL (L.take k)) = 170 ∧ parP (textL (L.take k)) = (textL (L.take k)).length) := by
  have hv' : ∀ t ∈ L.take k, validB t = true := fun t ht => hv t (List.mem_of_mem_take ht)
  rcases text_wrong hv' hs with ⟨h1, h2, _⟩ | ⟨r, h1, h2, h3⟩
  · exact .inl ⟨h1, h2⟩
  · refine .inr ⟨h2, ?_⟩
    rcases read_cut (a := L.take k) (b := L.drop k) (xs := xs) (by rw [List.take_append_drop]; exact h) with ⟨ys, e⟩ | e
    · rw [e] at h1; cases h1
    · rw [e] at h1
      cases h1
      have hll : (lexT (textL (L.take k))).length = (L.take k).length := by have := congrArg List.length (text_lex hv' hs).2.1; simpa using this
      rw [h3, List.drop_eq_nil_of_le (by rw [hll]; simp)]
      rfl
/-- the tokens behind the first i of them lie behind the text of these -/
theorem join_pos : ∀ (l : List Tok) (i at_ : Nat), (∀ t ∈ l, validB t = true) → ∀ t ∈ (lexA (joinW (l.map txt)) at_).1.drop i, (at_ : Int) + (joinW ((l.take i).map txt)).length ≤ t.pos
  | l, 0, at_, h, t, ht => by
    have := lexA_posY _ _ t (by simpa using ht)
    simp [joinW]
    omega
  | [], i + 1, at_, h, t, ht => by simp [joinW, lexA_nil] at ht
  | [u], i + 1, at_, h, t, ht => by
    have := lexA_tok (t := u) (r := []) (h u (by simp)) rfl at_
    simp only [List.append_nil] at this
    simp only [List.map_cons, List.map_nil, joinW, this, lexA_nil, List.drop_succ_cons, List.drop_nil] at ht
    cases ht
  | u :: v :: r, i + 1, at_, h, t, ht => by
    have hu := lexA_tok (t := u) (r := 32 :: joinW ((v :: r).map txt)) (h u (by simp)) rfl at_
    have hs := lexA_spc (c := 32) (r := joinW ((v :: r).map txt)) (at_ := at_ + (txt u).length) rfl
    have ih := join_pos (v :: r) i (at_ + (txt u).length + 1) (fun x hx => h x (by simp at hx ⊢; right; exact hx)) t
    simp only [List.map_cons, joinW] at hu hs ih ht ⊢
    rw [hu, hs] at ht
    have := ih (by simpa using ht)
    cases i with
    | zero => simp [joinW] at this ⊢; omega
    | succ i => simp [joinW] at this ⊢; omega
theorem join_pre : ∀ (l : List (List UInt8)) (i : Nat), joinW (l.take i) <+: joinW l
  | l, 0 => by simp [joinW]
  | [], i + 1 => by simp [joinW]
  | [x], i + 1 => by simp [joinW]
  | x :: y :: r, 1 => by simp [joinW]
  | x :: y :: r, i + 2 => by
    have := join_pre (y :: r) (i + 1)
    simp only [List.take_succ_cons, joinW] at this ⊢
    obtain ⟨z, hz⟩ := this
    exact ⟨z, by rw [← hz]; simp⟩
theorem change_law {L : List Tok} {xs : List WishD} (hv : ∀ t ∈ L, validB t = true) (h : pRead L = .ok xs) {i : Nat} (hi : i < L.length) {o : Tok} (ho : validB o = true)
    (hs : (textL (L.set i o)).length ≤ 65536) :
    (parE (textL (L.set i o)) = 0 ∧ parP (textL (L.set i o)) = 0) ∨
    (parE (textL (L.set i o)) = 170 ∧ ((textL (L.take i)).length : Int) ≤ parP (textL (L.set i o)) ∧ parP (textL (L.set i o)) ≤ (textL (L.set i o)).length) := by
  have hv' : ∀ t ∈ L.set i o, validB t = true := fun t ht => by
    rcases List.mem_or_eq_of_mem_set ht with h | rfl
    · exact hv t h
    · exact ho
  have hvt : ∀ t ∈ L.take i, validB t = true := fun t ht => hv t (List.mem_of_mem_take ht)
  rcases text_wrong hv' hs with ⟨h1, h2, _⟩ | ⟨r, h1, h2, h3⟩
  · exact .inl ⟨h1, h2⟩
  · refine .inr ⟨h2, ?_, (parP_bd hs).2⟩
    have hsp : L.set i o = L.take i ++ o :: L.drop (i + 1) := by rw [List.set_eq_take_append_cons_drop, if_pos hi]
    have hsuf : r <:+ o :: L.drop (i + 1) := read_change (a := L.take i) (b := L.drop i) (xs := xs) (by rw [List.take_append_drop]; exact h) (by rw [← hsp]; exact h1)
    have hlen := hsuf.length_le
    simp only [List.length_cons, List.length_drop] at hlen
    have hli : i ≤ (L.set i o).length - r.length := by rw [List.length_set]; omega
    obtain ⟨d, hd⟩ : ∃ d, (L.set i o).length - r.length = i + d := ⟨_, (Nat.add_sub_cancel' hli).symm⟩
    rw [h3, hd, (text_lex hv' hs).2.2, ← List.drop_drop]
    have htk : (L.set i o).take i = L.take i := by rw [List.take_set]; exact List.set_eq_of_length_le (by simp; omega)
    rw [textL_ofY hvt, textL_ofY hv']
    have hpre := (join_pre ((L.set i o).map txt) i).length_le
    rw [← List.map_take, htk] at hpre
    cases e : List.drop d (List.drop i (lexA (joinW ((L.set i o).map txt)) 0).1) with
    | nil => simp only [placeOf]; omega
    | cons t u =>
      have hm : t ∈ (lexA (joinW ((L.set i o).map txt)) 0).1.drop i := List.mem_of_mem_drop (by rw [e]; exact List.mem_cons_self ..)
      have := join_pos _ i 0 hv' t hm
      rw [htk] at this
      simp only [placeOf]
      omega
theorem change_pre {L : List Tok} (hv : ∀ t ∈ L, validB t = true) {i : Nat} {o : Tok} (ho : validB o = true) : textL (L.take i) <+: textL (L.set i o) := by
  have hv' : ∀ t ∈ L.set i o, validB t = true := fun t ht => by
    rcases List.mem_or_eq_of_mem_set ht with h | rfl
    · exact hv t h
    · exact ho
  have hvt : ∀ t ∈ L.take i, validB t = true := fun t ht => hv t (List.mem_of_mem_take ht)
  rw [textL_ofY hvt, textL_ofY hv']
  have hpre := join_pre ((L.set i o).map txt) i
  rw [← List.map_take] at hpre
  have htk : (L.set i o).take i = L.take i := by rw [List.take_set]; exact List.set_eq_of_length_le (by simp; omega)
  rw [htk] at hpre
  exact hpre
end Go.Proofs.YtfnmidddgjlipaaDoor

/-
  Layer 17: the walk of SyntaxChange.
-/
set_option linter.unusedVariables false
set_option linter.unusedSimpArgs false
namespace Go.Proofs.YtfnmidddgjlipaaDoor
open Go.RowKit

theorem IsToks.src {B : Nat} {w : World} {v : Value} {ts : List Tok} (h : IsToks B w v ts) : Src w 4 v ts.length (flatT ts) := by
  obtain ⟨b, off, cap, ⟨ad, rfl, hcap, hmax, ha⟩, hly, hz, hc⟩ := h
  refine ⟨ad, cap, rfl, flatT_len ts, fun j u hj => ?_, flatT_one ts⟩
  have hlt : j < ts.length * 4 := by
    have := (List.getElem?_eq_some_iff.1 hj).1
    rwa [flatT_len] at this
  obtain rfl : ad = some ⟨b, off, none⟩ := by rcases ha with ha | ha; exact ha; omega
  have e : (⟨b, off, none⟩ : Addr).add j = ⟨b, off + j, none⟩ := by unfold Addr.add; split <;> simp_all
  refine ⟨_, rfl, ?_⟩
  rw [e]
  have hq : j / 4 < ts.length := by omega
  have hg := flatT_get ts (j / 4) hq (j % 4) (by omega)
  rw [show j / 4 * 4 + j % 4 = j by omega, hj] at hg
  obtain ⟨g0, g1, g2, g3⟩ := hc (j / 4) hq
  have h4 : j % 4 = 0 ∨ j % 4 = 1 ∨ j % 4 = 2 ∨ j % 4 = 3 := by omega
  rcases h4 with h | h | h | h <;> rw [h] at hg <;> simp only [tokC, List.getElem?_cons_zero, List.getElem?_cons_succ, Option.some.injEq] at hg <;> subst hg
  · rw [show off + j = off + j / 4 * 4 by omega]; exact g0.2
  · rw [show off + j = off + j / 4 * 4 + 1 by omega]; exact g1.2
  · rw [show off + j = off + j / 4 * 4 + 2 by omega]; exact g2.2
  · rw [show off + j = off + j / 4 * 4 + 3 by omega]; exact g3.2
theorem wpList_yes {P : Program} {ops : Array Oper} {rest : List Oper} {o : Oper} {a : Act} {w : World} {Q : Exit → Act → World → Prop} (hw : Region.wanted o (yielded ops a.tmps) = true)
    (h : ∀ K : Act → World → Prop, (∀ a w, wpList P ops Q rest a w → K a w) → o.wp P a w K Q) : wpList P ops Q (o :: rest) a w :=
  wpList_step fun K hK => by rw [if_pos hw]; exact h K hK
theorem own_cells {C : Nat} {w : World} {a : Option Addr} {N c : Nat} {T : List Tok} (h : OwnToks C w (.slice a N c) T) (hN : 0 < N) :
    ∃ g cur, a = some ⟨g, 0, none⟩ ∧ C ≤ g ∧ CellsN w g cur ∧ cur.size = c * 4 ∧ cur.toList.take (N * 4) = flatT T ∧ N ≤ c ∧ c ≤ 9223372036854775807 := by
  obtain ⟨⟨h1, h2⟩, h3, h4⟩ := h
  rcases h2 with ⟨e, h2⟩ | ⟨g, cap, cur, e, h5, h6, h7, h8, h9, h10⟩
  · injection e with _ e _
    omega
  · injection e with e1 e2 e3
    subst e1
    subst e3
    have hl : N = T.length := e2
    rw [← hl] at h10 h7
    exact ⟨g, cur, rfl, h5, ⟨_, h6⟩, h9, h10, h7, h8⟩
theorem set_take {T : List Tok} {k : Nat} {o : Tok} : (T.set k o).take k = T.take k := by
  rw [List.take_set]
  exact List.set_eq_of_length_le (by simp; omega)
theorem has_pre {a b : List UInt8} (h : b <+: a) : Go.Lib.hasPrefix a b = true := by
  unfold Go.Lib.hasPrefix
  exact List.isPrefixOf_iff_prefix.2 h
theorem takeToks {B N k c : Nat} {w : World} {a : Option Addr} {T : List Tok} (h : IsToks B w (.slice a N c) T) (hN : T.length = N) (hk : k ≤ N) : IsToks B w (.slice a k c) (T.take k) := by
  subst hN
  obtain ⟨b, off, cap, ⟨a', e, h1, h1', h1''⟩, h2, h3, h4⟩ := h
  cases e
  refine ⟨b, off, c, ⟨a, ?_, ?_, h1', ?_⟩, ?_, fun t ht => h3 t (List.mem_of_mem_take ht), fun j hj => ?_⟩
  · rw [List.length_take, Nat.min_eq_left hk]
  · rw [List.length_take]; omega
  · rw [List.length_take, Nat.min_eq_left hk]
    rcases h1'' with h | h
    · exact .inl h
    · exact .inr (by omega)
  · rw [List.length_take]; omega
  · rw [List.length_take] at hj
    have e : tokAt (T.take k) j = tokAt T j := by
      unfold tokAt
      rw [List.getD_eq_getElem?_getD, List.getD_eq_getElem?_getD, List.getElem?_take, if_pos (by omega)]
    rw [e]
    exact h4 j (by omega)
theorem stored_toks {w : World} {g N c k : Nat} {cur : Array Value} {T : List Tok} {ok on op : Int} {ot : List UInt8} (hc : CellsN w g cur) (hs : cur.size = c * 4) (ht : cur.toList.take (N * 4) = flatT T) (hN : T.length = N) (hNc : N ≤ c) (hm : c ≤ 9223372036854775807) (hk : k < N) (hl : N ≤ 1000) (hT : ∀ t ∈ T, okT t) (ho : okT ⟨ok, ot, on, op⟩) :
    IsToks ((((w.setCell ⟨g, k * 4, none⟩ (.int .i64 ok)).setCell ⟨g, k * 4 + 1, none⟩ (.string ⟨ot.toArray⟩)).setCell ⟨g, k * 4 + 2, none⟩ (.int .i64 on)).setCell ⟨g, k * 4 + 3, none⟩ (.int .i64 op)).heap.size ((((w.setCell ⟨g, k * 4, none⟩ (.int .i64 ok)).setCell ⟨g, k * 4 + 1, none⟩ (.string ⟨ot.toArray⟩)).setCell ⟨g, k * 4 + 2, none⟩ (.int .i64 on)).setCell ⟨g, k * 4 + 3, none⟩ (.int .i64 op)) (.slice (some ⟨g, 0, none⟩) N c) (T.set k ⟨ok, ot, on, op⟩) := by
  have h4 := (((hc.set (k * 4) (.int .i64 ok)).set (k * 4 + 1) (.string ⟨ot.toArray⟩)).set (k * 4 + 2) (.int .i64 on)).set (k * 4 + 3) (.int .i64 op)
  generalize ((((w.setCell ⟨g, k * 4, none⟩ (.int .i64 ok)).setCell ⟨g, k * 4 + 1, none⟩ (.string ⟨ot.toArray⟩)).setCell ⟨g, k * 4 + 2, none⟩ (.int .i64 on)).setCell ⟨g, k * 4 + 3, none⟩ (.int .i64 op)) = W at *
  subst hN
  refine ⟨g, 0, c, ⟨_, by rw [List.length_set], by rw [List.length_set]; exact hNc, hm, .inl rfl⟩, by rw [List.length_set]; omega, fun t htm => ?_, fun j hj => ?_⟩
  · rcases List.mem_or_eq_of_mem_set htm with h | rfl
    · exact hT t h
    · exact ho
  · rw [List.length_set] at hj
    have hval : ∀ q, q < 4 → W.cell? ⟨g, 0 + j * 4 + q, none⟩ = (tokC (tokAt (T.set k ⟨ok, ot, on, op⟩) j))[q]? := by
      intro q hq
      rw [Nat.zero_add, h4.cell]
      simp only [Array.getElem?_setIfInBounds]
      have hsz : j * 4 + q < cur.size := by omega
      have hsk : k * 4 + 3 < cur.size := by omega
      by_cases hjk : j = k
      · subst hjk
        have e : tokAt (T.set j ⟨ok, ot, on, op⟩) j = ⟨ok, ot, on, op⟩ := by
          unfold tokAt
          rw [List.getD_eq_getElem?_getD, List.getElem?_set_self hj]
          rfl
        rw [e]
        match q, hq with
        | 0, _ => simp [hsz, show j * 4 < cur.size by omega, tokC]
        | 1, _ => simp [show j * 4 + 1 < cur.size by omega, tokC, strV]
        | 2, _ => simp [show j * 4 + 2 < cur.size by omega, tokC]
        | 3, _ => simp [show j * 4 + 3 < cur.size by omega, tokC]
      · have e : tokAt (T.set k ⟨ok, ot, on, op⟩) j = tokAt T j := by
          unfold tokAt
          rw [List.getD_eq_getElem?_getD, List.getD_eq_getElem?_getD, List.getElem?_set_ne (by omega)]
        rw [e, if_neg (by omega), if_neg (by omega), if_neg (by omega), if_neg (by omega)]
        have h5 := flatT_get T j hj q hq
        rw [← h5, ← ht, List.getElem?_take, if_pos (by omega), Array.getElem?_toList]
    have hlt : g < W.heap.size := h4.lt
    exact ⟨⟨hlt, hval 0 (by omega)⟩, ⟨hlt, hval 1 (by omega)⟩, ⟨hlt, hval 2 (by omega)⟩, ⟨hlt, hval 3 (by omega)⟩⟩
theorem rem_slotC (n : Int) (N : Nat) (h0 : N ≠ 0) (hN : N ≤ 1000) : ∃ k : Nat, k < N ∧ wrap64 ((IntKind.u64.wrap n).tmod (N : Int)) = (k : Int) := by
  have h0' : 0 ≤ IntKind.u64.wrap n := by unfold IntKind.wrap; simp [IntKind.signed, IntKind.bits]; omega
  obtain ⟨u, hu⟩ : ∃ u : Nat, IntKind.u64.wrap n = (u : Int) := ⟨_, (Int.toNat_of_nonneg h0').symm⟩
  have hlt := Nat.mod_lt u (show 0 < N by omega)
  refine ⟨u % N, hlt, ?_⟩
  rw [hu, Int.tmod_eq_emod_of_nonneg (by omega)]
  have e : ((u : Int) % (N : Int)) = ((u % N : Nat) : Int) := by simp
  rw [e]
  unfold wrap64
  omega
set_option maxHeartbeats 8000000 in
set_option maxRecDepth 100000 in
theorem syntaxChange_any (s : ByteArray) (n : Int) (o : Tok) (w : World) (hL : LaidW w) (hs : s.size ≤ 140737488351232) (hn : I64 n) (ho : okT o) :
    Calls Tryd.prog 6 #[.string s, .int .i64 n, tokV o] w fun e w' => e = .returned (.bool true) ∧ Below w.heap.size w w' := by
  have HL0 := Lib.hid hL
  have h4 := hL.size
  have hlen := size_data s
  have HO := Lib.hid ho
  clear hL ho
  have HVV := Lib.hid (fun w => rvalid_any o w HO.out)
  obtain ⟨A, hA⟩ : ∃ A, s.data.toList = A := ⟨_, rfl⟩
  have HA : Hid (A.length = s.size) := Lib.hid (by rw [← hA]; exact hlen)
  obtain ⟨VT, hVT⟩ : ∃ b, validB o = b := ⟨_, rfl⟩
  rw [hVT] at HVV
  have HVT := Lib.hid hVT
  clear hVT hlen
  obtain ⟨ok, ot, on, op⟩ := o
  unfold tokV at HVV ⊢
  unfold strV at HVV ⊢
  simp only at HVV ⊢
  obtain ⟨so, hso⟩ : ∃ so, ByteArray.mk ot.toArray = so := ⟨_, rfl⟩
  rw [hso] at HVV ⊢
  have HSO := Lib.hid hso
  clear hso
  go_enter Tryd.func6, Tryd.ntmps6
  obtain ⟨W0, hW0⟩ : ∃ W, w.alloc (.cells #[.int .i64 ok, .string so, .int .i64 on, .int .i64 op] 37) = W := ⟨_, rfl⟩
  have HBZ : Hid (Below w.heap.size w W0) := Lib.hid (by rw [← hW0]; exact box_below' w _)
  have HLZ := Lib.hid (HL0.out.below HBZ.out h4)
  have HOC : Hid (CellsN W0 w.heap.size #[.int .i64 ok, .string so, .int .i64 on, .int .i64 op]) := Lib.hid (by rw [← hW0]; exact CellsN.new _ _ _)
  go_upto_region 1 with fail
  try rw [hW0]
  clear hW0
  go_wp2_with fail
  refine (sane17_any W0 HLZ.out).mono ?_
  rintro e w1 ⟨rfl, hb⟩
  have HB1 : Hid (Below w.heap.size w w1) := Lib.hid (HBZ.out.trans (hb.mono HBZ.out.size))
  have HL1 := Lib.hid (HL0.out.below HB1.out h4)
  have HC1 : Hid (CellsN w1 w.heap.size #[.int .i64 ok, .string so, .int .i64 on, .int .i64 op]) := Lib.hid (HOC.out.ext hb)
  clear hb
  go_wp2_with fail
  refine (lex_any s w1 HL1.out (by omega)).mono ?_
  rintro e w2 ⟨v1, he, ho, hb⟩
  rw [hA] at he ho
  have HB2 : Hid (Below w.heap.size w w2) := Lib.hid (HB1.out.trans (hb.mono HB1.out.size))
  have HC2 : Hid (CellsN w2 w.heap.size #[.int .i64 ok, .string so, .int .i64 on, .int .i64 op]) := Lib.hid (HC1.out.ext hb)
  have HT := Lib.hid ho.isToks
  obtain ⟨a1, c1, rfl⟩ := ho.form
  obtain ⟨ET, hET⟩ : ∃ E, lexE A = E := ⟨_, rfl⟩
  obtain ⟨PT, hPT⟩ : ∃ E, lexP A = E := ⟨_, rfl⟩
  obtain ⟨T, hT⟩ : ∃ L, lexT A = L := ⟨_, rfl⟩
  rw [hET, hPT, hT] at he
  rw [hT] at HT
  subst he
  clear ho hb
  have HLR := Lib.hid (fun h1 h2 => par_read (s := A) h1 h2)
  have HTV : Hid (∀ t ∈ T, validB t = true) := Lib.hid (by rw [← hT]; exact lexT_valid A)
  rw [hET, hT] at HLR
  clear hET hPT hT
  go_wp2_with fail
  refine (parse_any s w2 (HL0.out.below HB2.out h4) (by omega)).mono ?_
  rintro e w3 ⟨v2, he, ho, hb⟩
  rw [hA] at he ho
  have HB3 : Hid (Below w.heap.size w w3) := Lib.hid (HB2.out.trans (hb.mono HB2.out.size))
  have HC3 : Hid (CellsN w3 w.heap.size #[.int .i64 ok, .string so, .int .i64 on, .int .i64 op]) := Lib.hid (HC2.out.ext hb)
  have HT3 := Lib.hid ((HT.out.below hb (Nat.le_refl _)).mono hb.size)
  obtain ⟨EP, hEP⟩ : ∃ E, parE A = E := ⟨_, rfl⟩
  obtain ⟨PP, hPP⟩ : ∃ E, parP A = E := ⟨_, rfl⟩
  rw [hEP, hPP] at he
  rw [hEP] at HLR
  subst he
  clear ho hb hEP hPP
  obtain ⟨N, hN⟩ : ∃ N, T.length = N := ⟨_, rfl⟩
  rw [hN]
  have HN := Lib.hid hN
  by_cases c1' : 2000 < s.size
  · have c1' : (2000 : Int) < (s.size : Int) := by omega
    go_wp2
    go_ret
    exact ⟨rfl, HB3.out⟩
  have c1' : ¬ (2000 : Int) < (s.size : Int) := by omega
  by_cases c2 : ET = 0
  rotate_left
  · have c2' : (ET != 0) = true := by simpa using c2
    clear c2
    go_wp2
    go_ret
    exact ⟨rfl, HB3.out⟩
  subst c2
  by_cases c3 : EP = 0
  rotate_left
  · have c3' : (EP != 0) = true := by simpa using c3
    clear c3
    go_wp2
    go_ret
    exact ⟨rfl, HB3.out⟩
  subst c3
  by_cases c4 : N = 0
  · have c4' : ((N : Int) == 0) = true := by simp [c4]
    clear c4 hN
    go_wp2
    go_ret
    exact ⟨rfl, HB3.out⟩
  have c4' : ((N : Int) == 0) = false := by simpa using c4
  by_cases c5 : 1000 < N
  · have c5' : (1000 : Int) < (N : Int) := by omega
    clear c4 hN
    go_wp2
    go_ret
    exact ⟨rfl, HB3.out⟩
  have c5' : ¬ (1000 : Int) < (N : Int) := by omega
  have m0 := HC3.out.cell 0
  have m1 := HC3.out.cell 1
  have m2 := HC3.out.cell 2
  have m3 := HC3.out.cell 3
  simp at m0 m1 m2 m3
  clear hN
  go_wp2_with fail
  refine (HVV.out _).mono ?_
  rintro e w4 ⟨rfl, hb⟩
  have HB4 : Hid (Below w.heap.size w w4) := Lib.hid (HB3.out.trans (hb.mono HB3.out.size))
  have HC4 : Hid (CellsN w4 w.heap.size #[.int .i64 ok, .string so, .int .i64 on, .int .i64 op]) := Lib.hid (HC3.out.ext hb)
  have HT4 := Lib.hid ((HT3.out.below hb (Nat.le_refl _)).mono hb.size)
  clear hb m0 m1 m2 m3
  cases VT with
  | false =>
    go_wp2
    go_ret
    exact ⟨rfl, HB4.out⟩
  | true =>
  clear c4' c5' c1'
  obtain ⟨xs, hxs⟩ := HLR.out trivial trivial
  have HXS := Lib.hid hxs
  clear hxs
  have hN0 : N ≠ 0 := c4
  obtain ⟨k, hk1, hk2⟩ := rem_slotC n N hN0 (by omega)
  have HTOK : Hid (∀ t ∈ T, okT t) := Lib.hid (by obtain ⟨_, _, _, _, _, h, _⟩ := HT4.out; exact h)
  rw [HN.out] at HT4
  obtain ⟨v5, w5, hrun, ho5, hg5, hat5⟩ := run_append_toks (C := w4.heap.size) (v := .slice (some ⟨w4.heap.size, 0, none⟩) 0 0) (vx := .slice a1 N c1) (xs := []) (ys := T) (ty := 33) (OwnToks.made (w := w4) rfl (Nat.le_refl _)) (IsToks.src (IsToks.below HT4.out (box_below' w4 _) (Nat.le_refl _))) HTOK.out (by have := HN.out; simp; omega) (by simp)
  have HRUN := Lib.hid hrun
  rw [List.nil_append] at ho5
  obtain ⟨a5, c5, rfl⟩ := ho5.form
  rw [HN.out] at ho5 HRUN
  have HO5 := Lib.hid ho5
  have hb5 : Below w4.heap.size w4 w5 := (box_below' w4 _).grown hg5 (by simp) (fun q e => by have e2 : w4.heap.size = q := Option.some.inj e; omega)
  have HB5 := Lib.hid hb5
  clear hrun ho5 hg5 hat5 hb5
  go_upto_region 8 with fail
  obtain ⟨g, cur, hca, hg4, hCN, hsz, htk, hc5, hmx⟩ := own_cells HO5.out (by omega)
  have hca' : a5 = some ⟨g, 0, none⟩ := hca
  subst hca'
  clear hca
  have HCN := Lib.hid hCN
  have HTK := Lib.hid htk
  clear hCN htk
  have HSZ5 := HB5.out.size
  have HLT : w.heap.size < w4.heap.size := by
    have h1 := HC4.out.lt
    exact h1
  have HC5 : Hid (CellsN w5 w.heap.size #[.int .i64 ok, .string so, .int .i64 on, .int .i64 op]) := Lib.hid (HC4.out.ext HB5.out)
  have m0 := HC5.out.cell 0
  have m1 := HC5.out.cell 1
  have m2 := HC5.out.cell 2
  have m3 := HC5.out.cell 3
  simp at m0 m1 m2 m3
  have hne : ¬ g = w.heap.size := by omega
  have hne' : ¬ w.heap.size = g := by omega
  obtain ⟨x0, p0⟩ : ∃ x, w5.cell? ⟨g, k * 4, none⟩ = some x := ⟨_, by rw [HCN.out.cell, Array.getElem?_eq_getElem (by omega)]⟩
  obtain ⟨x1, p1⟩ : ∃ x, w5.cell? ⟨g, k * 4 + 1, none⟩ = some x := ⟨_, by rw [HCN.out.cell, Array.getElem?_eq_getElem (by omega)]⟩
  obtain ⟨x2, p2⟩ : ∃ x, w5.cell? ⟨g, k * 4 + 2, none⟩ = some x := ⟨_, by rw [HCN.out.cell, Array.getElem?_eq_getElem (by omega)]⟩
  obtain ⟨x3, p3⟩ : ∃ x, w5.cell? ⟨g, k * 4 + 3, none⟩ = some x := ⟨_, by rw [HCN.out.cell, Array.getElem?_eq_getElem (by omega)]⟩
  have f0 := HCN.out.free (k * 4)
  have f1 := HCN.out.free (k * 4 + 1)
  have f2 := HCN.out.free (k * 4 + 2)
  have f3 := HCN.out.free (k * 4 + 3)
  go_wp2_with (at_builtin; refine wpList_yes rfl (fun K hK => wp_of_append (s := .tmp 67) (x := .tmp 68) _ rfl rfl rfl HRUN.out (hK _ _ ?_)))
  obtain ⟨W6, hW6⟩ : ∃ W, (((w5.setCell ⟨g, k * 4, none⟩ (.int .i64 ok)).setCell ⟨g, k * 4 + 1, none⟩ (.string so)).setCell ⟨g, k * 4 + 2, none⟩ (.int .i64 on)).setCell ⟨g, k * 4 + 3, none⟩ (.int .i64 op) = W := ⟨_, rfl⟩
  have HT6 : Hid (IsToks W6.heap.size W6 (.slice (some ⟨g, 0, none⟩) N c5) (T.set k ⟨ok, ot, on, op⟩)) := Lib.hid (by
    rw [← hW6, ← HSO.out]
    exact stored_toks HCN.out hsz HTK.out HN.out (by omega) hmx hk1 (by omega) HTOK.out HO.out)
  have HB6 : Hid (Below w.heap.size w W6) := Lib.hid (by
    rw [← hW6]
    have h1 : Below w4.heap.size w4 ((((w5.setCell ⟨g, k * 4, none⟩ (.int .i64 ok)).setCell ⟨g, k * 4 + 1, none⟩ (.string so)).setCell ⟨g, k * 4 + 2, none⟩ (.int .i64 on)).setCell ⟨g, k * 4 + 3, none⟩ (.int .i64 op)) := (((HB5.out.setCell (p := ⟨g, k * 4, none⟩) hg4 _).setCell (p := ⟨g, k * 4 + 1, none⟩) hg4 _).setCell (p := ⟨g, k * 4 + 2, none⟩) hg4 _).setCell (p := ⟨g, k * 4 + 3, none⟩) hg4 _
    exact HB4.out.trans (h1.mono HB4.out.size))
  rw [hW6]
  clear hW6 m0 m1 m2 m3 p0 p1 p2 p3 f0 f1 f2 f3 hne hne' x0 x1 x2 x3
  have HVS : Hid (∀ t ∈ T.set k ⟨ok, ot, on, op⟩, validB t = true) := Lib.hid (fun t ht => by
    rcases List.mem_or_eq_of_mem_set ht with h | rfl
    · exact HTV.out t h
    · exact HVT.out)
  have HVK : Hid (∀ t ∈ T.take k, validB t = true) := Lib.hid (fun t ht => HTV.out t (List.mem_of_mem_take ht))
  refine (text_any W6.heap.size W6 _ (T.set k ⟨ok, ot, on, op⟩) (HL0.out.below HB6.out h4) (Nat.le_refl _) HT6.out (by rw [List.length_set]; have := HN.out; omega) (fun t ht => by have := valid_short (HVS.out t ht); omega)).mono ?_
  rintro e w7 ⟨rfl, hb⟩
  have HB7 : Hid (Below w.heap.size w w7) := Lib.hid (HB6.out.trans (hb.mono HB6.out.size))
  have HT7 := Lib.hid ((HT6.out.below hb (Nat.le_refl _)).mono hb.size)
  rw [textE_ofY HVS.out]
  obtain ⟨S, hS⟩ : ∃ S : ByteArray, S.data.toList = textL (T.set k ⟨ok, ot, on, op⟩) := ⟨⟨(textL (T.set k ⟨ok, ot, on, op⟩)).toArray⟩, rfl⟩
  rw [show strV (textL (T.set k ⟨ok, ot, on, op⟩)) = .string S by rw [← hS]]
  obtain ⟨P, hP⟩ : ∃ S : ByteArray, S.data.toList = textL (T.take k) := ⟨⟨(textL (T.take k)).toArray⟩, rfl⟩
  have hkT : k < T.length := by rw [HN.out]; exact hk1
  have HCL := Lib.hid (fun h => change_law HTV.out HXS.out hkT HVT.out h)
  have HPRE := Lib.hid (change_pre HTV.out (i := k) HVT.out)
  rw [← hS, ← hP, size_data, size_data] at HCL
  rw [← hS, ← hP] at HPRE
  have HSS := Lib.hid hS
  have HPP := Lib.hid hP
  have hkc : k ≤ c5 := by omega
  clear hb hS hP
  have HTKK := Lib.hid (takeToks HT7.out (by rw [List.length_set]; exact HN.out) (Nat.le_of_lt hk1))
  rw [set_take] at HTKK
  go_wp2_with fail
  refine (text_any w7.heap.size w7 _ (T.take k) (HL0.out.below HB7.out h4) (Nat.le_refl _) HTKK.out (by rw [List.length_take]; have := HN.out; omega) (fun t ht => by have := valid_short (HVK.out t ht); omega)).mono ?_
  rintro e w8 ⟨rfl, hb⟩
  have HB8 : Hid (Below w.heap.size w w8) := Lib.hid (HB7.out.trans (hb.mono HB7.out.size))
  rw [textE_ofY HVK.out, ← HPP.out, show strV P.data.toList = .string P from rfl]
  clear hb
  have hpx : Go.Lib.hasPrefix S.data.toList P.data.toList = true := has_pre HPRE.out
  have HPX := Lib.hid hpx
  clear hpx
  go_wp2_with fail
  refine (Tryd.strings_HasPrefix S P w8).mono ?_
  rintro e w9 ⟨rfl, rfl⟩
  rw [HPX.out]
  by_cases hbig : 65536 < S.size
  · have hbig2 : (65536 : Int) < (S.size : Int) := by omega
    go_wp2
    go_ret
    exact ⟨rfl, HB8.out⟩
  have hbig2 : ¬ (65536 : Int) < (S.size : Int) := by omega
  go_wp2_with fail
  refine (parse_any S w9 (HL0.out.below HB8.out h4) (by omega)).mono ?_
  rintro e w10 ⟨v10, he, ho, hb⟩
  have HB10 : Hid (Below w.heap.size w w10) := Lib.hid (HB8.out.trans (hb.mono HB8.out.size))
  clear ho hb
  rcases HCL.out (by omega) with ⟨j1, j2⟩ | ⟨j1, j2, j3⟩
  · rw [j1, j2] at he
    subst he
    clear j1 j2 hbig hbig2
    go_wp2
    go_ret
    exact ⟨rfl, HB10.out⟩
  · obtain ⟨q, hq⟩ : ∃ q, parP S.data.toList = q := ⟨_, rfl⟩
    rw [hq] at j2 j3 he
    rw [j1] at he
    subst he
    clear j1 hq hbig hbig2
    go_wp2
    go_ret
    exact ⟨by simp, HB10.out⟩
end Go.Proofs.YtfnmidddgjlipaaDoor

/-
  SyntaxChange holds, and its card: for all arguments the law returns true, and the arguments read as before.
  Conditions: what the row lists of package-level variables; the card ties that to the program's text.
-/
set_option linter.unusedVariables false
set_option linter.unusedSimpArgs false
namespace Go.Proofs.YtfnmidddgjlipaaDoor
open Go.ChangeShapes Go.WideShapes Go.ChangeAt Go.RowKit
open Go.ChangeMaps (open_string shut_string)

set_option maxRecDepth 100000 in
theorem syntaxChange_lifted (os : Os) (started : os.Started) (H : Type) (enc : TypeId × Value → H) :
    ReturnsInHanded {} Tryd.checked os 6 .any (fun w args => (Rows.syntaxChangeSpec.pre enc Tryd.prog Tryd.f6 Rows.syntaxChangeRow.domain false w args ∧ laidMetH Tryd.prog laid5 w) ∧ sizedMet enc Tryd.prog Tryd.f6 (OpenSpec.ofChange Rows.syntaxChangeSpec) false w args)
      (Rows.syntaxChangeSpec.post enc Tryd.prog Tryd.f6 false true false false) := by
  refine returnsInHanded_of_change_and (C := Tryd.checked) (X := fun w _ => laidMetH Tryd.prog laid5 w) (fun _ _ _ hh h => h.of_heap hh) seat_own started (by kernel_rfl) Tryd.func6
    (ChangeSpec.witness_shaped (enc := enc) (C := Tryd.checked) (os := os) (X := fun w _ => laidMetH Tryd.prog laid5 w) false (World.doorLaid Tryd.prog 400 os) #[.string ByteArray.empty, .int .i64 0, .agg #[.int .i64 0, .string ByteArray.empty, .int .i64 0, .int .i64 0]] 8 rfl (World.shaped_of_RefB (by kernel_rfl) (by kernel_rfl)) (by kernel_rfl) (by kernel_rfl) (by kernel_rfl) (door_met os _)) ?_
  intro W base args ds gs before hval0 hW _ hsz0 hL0 _
  have hsz : (DataW.weightsEach Tryd.prog (Tryd.f6.params.toList ++ Rows.syntaxChangeSpec.plain.varTypes Tryd.prog) (ds ++ gs)).all (· ≤ reachBytes) = true := hsz0
  have hval : ∀ (j : Nat) t v, Tryd.f6.params[j]? = some t → args[j]? = some v → Value.okWide Tryd.prog W .any base t v := hval0
  have HL := laid_of hL0
  have hW' := hW
  obtain ⟨p, q, hA0, hV, rfl, hfz, hnd⟩ := hW
  have hA : DataW.TrodAll enc Tryd.prog W 0 (fun _ => true) true Tryd.f6.params.toList args.toList ds p := hA0
  rw [Tryd.params6] at hA hval hsz
  obtain ⟨v0, vs0, d0, ds0, p0, q0, e0, rfl, rfl, h0, r0⟩ := trodAll_cons hA
  obtain ⟨v1, vs1, d1, ds1, p1, q1, rfl, rfl, rfl, h1, r1⟩ := trodAll_cons r0
  obtain ⟨v2, vs2, d2, ds2, p2, q2, rfl, rfl, rfl, h2, r2⟩ := trodAll_cons r1
  obtain ⟨rfl, rfl, rfl⟩ := trodAll_nil r2
  obtain rfl : args = #[v0, v1, v2] := by cases args; simp_all
  obtain ⟨rfl, rfl⟩ := trodVars_none hV
  have hw : ∀ n ∈ DataW.weightsEach Tryd.prog [9, 3, 37] [d0, d1, d2], n ≤ reachBytes := by
    intro n hn
    have := List.all_eq_true.1 hsz n hn
    simpa using this
  have z_s : d0.weights Tryd.prog 9 = d0.weights Tryd.prog 9 := rfl
  obtain ⟨s, rfl, hd_s, hp_s, s_s⟩ := open_string Tryd.underlying9 (hval 0 9 v0 rfl rfl) h0
  have b_s : s.size ≤ 140737488351232 := str_bound (d := d0) hd_s (fun n hn => hw n (DataW.weights_mem_each (j := 0) (t := 9) rfl rfl n hn))
  obtain ⟨n, rfl, _, _, w_n⟩ := open_int Tryd.underlying3 (hval 1 3 v1 rfl rfl) h1
  obtain ⟨o, rfl, h_o⟩ := open_IsTok (hval 2 37 v2 rfl rfl) h2 (fun n hn => hw n (DataW.weights_mem_each (j := 2) (t := 37) rfl rfl n hn))
  have hlt := hW'.lt
  simp only [List.append_nil] at hW' hlt
  refine (syntaxChange_any s n o W HL b_s (I64.of_wf w_n) h_o).mono fun e W' ⟨he, hb⟩ => ?_
  subst he
  refine ⟨_, rfl, _, _, _, [], p0 ++ (p1 ++ (p2 ++ [])), [], hW', trodAll_mk1 (shut_bool Tryd.underlying4 _), ?_, rfl, hb.frame _, fun h => by cases h⟩
  exact trodAll_cons_mk (hb.trod seat_laidOut (by kernel_rfl) (of_decide_eq_true (by kernel_rfl)) h0 (fun x hx => hlt x (by simp [hx]))) 
    (trodAll_cons_mk (hb.trod seat_laidOut (by kernel_rfl) (of_decide_eq_true (by kernel_rfl)) h1 (fun x hx => hlt x (by simp [hx]))) 
    (trodAll_cons_mk (hb.trod seat_laidOut (by kernel_rfl) (of_decide_eq_true (by kernel_rfl)) h2 (fun x hx => hlt x (by simp [hx]))) trodAll_mk0))

theorem syntaxChange_row : Rows.SyntaxChangeSaid :=
  OpenClaim.holds_of_wide 6 Tryd.f6 rfl rfl rfl rfl rfl rfl rfl ⟨rfl, rfl, rfl, rfl, rfl⟩ rfl rfl rfl rfl rfl (by kernel_rfl) Tryd.func6 (by kernel_rfl)
    (of_decide_eq_true (by kernel_rfl)) (by unfold Func.isWrapper; first | (rw [if_pos (by decide +kernel)]; kernel_rfl) | (rw [if_neg (by decide +kernel)]; exact ⟨rfl, rfl⟩))
    (fun os started H enc _ => syntaxChange_lifted os started H enc)

theorem syntaxChange_holds : Rows.SyntaxChangeCardSaid :=
  Claim7.holds_tied_plain_at .later [] [.data, .data, .data, .sentinel, .sentinel] true (true, "da7a53e2027b82d315f4c166b4b434db3249eefb495583a5a09f6f3e4ee5379c") true
    syntaxChange_row (fun _ h => by cases h) (by kernel_rfl) (fun _ h => by cases h) syntaxChange_row_tie rfl ⟨rfl, rfl⟩ (by kernel_rfl) rfl
    (fun f fn hf hfn => by
      obtain rfl : f = 6 := Option.some.inj ((show Tryd.prog.funcNamed Rows.syntaxChangeRow.func = some 6 by kernel_rfl).symm.trans hf) |>.symm
      obtain rfl : fn = Tryd.f6 := (Option.some.inj (Tryd.func6.symm.trans hfn)).symm
      exact ⟨by kernel_rfl, fun j t ht => by
        rw [Tryd.params6] at ht
        have hm : t ∈ [9, 3, 37] := by simpa using Array.mem_of_getElem? ht
        have hall : ([9, 3, 37].all fun u => !Tryd.prog.wantsStandIn u) = true := by kernel_rfl
        exact (show Tryd.prog.wantsStandIn t = false by simpa using List.all_eq_true.1 hall t hm)⟩)
    (by kernel_rfl)

end Go.Proofs.YtfnmidddgjlipaaDoor
