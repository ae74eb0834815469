/-
  Layer 3: the walks of lex.Name and lex.valid.
-/
import Derived.Test.YtfnmidddgjlipaaGreatDoorLx3
import Derived.Laws.Closers25b
set_option linter.unusedVariables false
set_option linter.unusedSimpArgs false
namespace Go.Proofs.YtfnmidddgjlipaaGreatDoor
open Go.RowKit

theorem cls_cases (c : UInt8) : (cls c = 2 ∧ isPart c = true ∧ isLet c = true) ∨ (cls c = 3 ∧ isPart c = true ∧ isLet c = false) ∨ (cls c = 5 ∧ isPart c = true ∧ isLet c = false) ∨
    (cls c = 1 ∧ isPart c = false ∧ isLet c = false) ∨ (cls c = 4 ∧ isPart c = false ∧ isLet c = false) ∨ (cls c = 0 ∧ isPart c = false ∧ isLet c = false) := by
  unfold cls isPart
  cases h1 : isLet c
  · cases h2 : isDig c
    · by_cases h3 : c.toNat = 95
      · simp [h3]
      · cases h4 : isSpc c
        · cases h5 : isSgn c <;> simp [h3]
        · simp [h3]
    · simp
  · simp
theorem size_data (s : ByteArray) : s.data.toList.length = s.size := by rw [Array.length_toList]; rfl
theorem data_get {s : ByteArray} {k : Nat} (h : k < s.size) : s.data.toList[k]? = some s[k] := by
  rw [List.getElem?_eq_getElem (by rw [size_data]; exact h)]; rfl
theorem str_ne {s : ByteArray} (h : 0 < s.size) : s.toList.isEmpty = false ∧ ¬ s.toList = [] := by
  have : ¬ s.toList = [] := by
    rw [toList_nil_iff_emptyBytes]
    rintro rfl
    simp at h
  exact ⟨by simpa using this, this⟩
theorem str_zero {s : ByteArray} (h : s.size = 0) : s = ByteArray.empty := by
  obtain ⟨⟨l⟩⟩ := s
  have : l = [] := by simpa [ByteArray.size] using h
  subst this
  rfl
theorem nameB_big {l : List UInt8} (h : 32 < l.length) : nameB l = false := by
  match l with
  | c :: r => simp only [nameB]; rw [decide_eq_false (by omega)]; rfl
theorem nameB_first {l : List UInt8} {c : UInt8} (h : l[0]? = some c) (hc : isLet c = false) : nameB l = false := by
  match l, h with
  | a :: r, h =>
    obtain rfl : a = c := by simpa using h
    simp [nameB, hc]
theorem nameB_bad {l : List UInt8} {k : Nat} {c : UInt8} (h : l[k]? = some c) (hc : isPart c = false) : nameB l = false := by
  match l, h with
  | a :: r, h =>
    simp only [nameB]
    have : (a :: r).all isPart = false := by
      rw [List.all_eq_false]
      exact ⟨c, List.mem_of_getElem? h, by simp [hc]⟩
    rw [this, Bool.and_false]
theorem nameB_ok {l : List UInt8} {c : UInt8} (h0 : l[0]? = some c) (hc : isLet c = true) (hn : l.length ≤ 32) (h : ∀ k, k < l.length → ∀ d, l[k]? = some d → isPart d = true) : nameB l = true := by
  match l, h0 with
  | a :: r, h0 =>
    obtain rfl : a = c := by simpa using h0
    simp only [nameB, Bool.and_eq_true, decide_eq_true_eq, List.all_eq_true]
    refine ⟨⟨hn, hc⟩, fun d hd => ?_⟩
    obtain ⟨k, hk⟩ := List.getElem?_of_mem hd
    exact h k (List.getElem?_eq_some_iff.1 hk).1 d hk

set_option maxHeartbeats 1000000 in
set_option maxRecDepth 100000 in
theorem name_any (s : ByteArray) (w : World) (hs : s.size ≤ 9223372036854775806) : Calls Tryz.prog 73 #[.string s] w fun e w' => e = .returned (.bool (nameB s.data.toList)) ∧ w' = w := by
  by_cases h0 : s.size = 0
  · obtain rfl := str_zero h0
    clear h0 hs
    go_enter Tryz.func73, Tryz.ntmps73
    go_wp2
    go_ret
    exact ⟨rfl, rfl⟩
  · obtain ⟨hE1, hE2⟩ := str_ne (s := s) (by omega)
    by_cases h32 : 32 < s.size
    · have HB := Lib.hid (nameB_big (l := s.data.toList) (by rw [size_data]; exact h32))
      go_enter Tryz.func73, Tryz.ntmps73
      go_wp2
      go_ret
      exact ⟨ret_bool' HB.out, rfl⟩
    · have hpos : 0 < s.size := by omega
      have HG := Lib.hid (fun k (hk : k < s.size) => data_get hk)
      cases hc : isLet s[0] with
      | false =>
        have HB := Lib.hid (nameB_first (HG.out 0 hpos) hc)
        have hne : (cls s[0] != 2) = true := by
          rcases cls_cases s[0] with ⟨e, _, f⟩ | ⟨e, _, f⟩ | ⟨e, _, f⟩ | ⟨e, _, f⟩ | ⟨e, _, f⟩ | ⟨e, _, f⟩
          · rw [hc] at f; cases f
          all_goals rw [e]; rfl
        clear hc
        go_enter Tryz.func73, Tryz.ntmps73
        go_wp2_with (go_at_call 31; refine (class_any _ _).mono ?_; rintro e w' ⟨rfl, rfl⟩)
        go_ret
        exact ⟨ret_bool' HB.out, rfl⟩
      | true =>
        have HC := Lib.hid hc
        have hne : (cls s[0] != 2) = false := by
          rcases cls_cases s[0] with ⟨e, _, f⟩ | ⟨e, _, f⟩ | ⟨e, _, f⟩ | ⟨e, _, f⟩ | ⟨e, _, f⟩ | ⟨e, _, f⟩
          · rw [e]; rfl
          all_goals rw [hc] at f; cases f
        clear hc
        go_enter Tryz.func73, Tryz.ntmps73
        go_wp2_with (go_at_call 31; refine (class_any _ _).mono ?_; rintro e w' ⟨rfl, rfl⟩)
        clear hne
        go_loop [20] (fun i => ∃ k : Nat, k ≤ s.size ∧ i = .int .i64 k ∧ ∀ j, j < k → ∀ d, s.data.toList[j]? = some d → isPart d = true) (fun i => s.size - (intOf i).toNat)
        case atStart => exact ⟨0, Nat.zero_le _, rfl, fun j hj => by omega⟩
        case round =>
          obtain ⟨k, hk, rfl, hall⟩ := hrel
          have HA := Lib.hid hall
          clear hall
          by_cases hlt : k < s.size
          · rcases cls_cases s[k] with ⟨e, f, _⟩ | ⟨e, f, _⟩ | ⟨e, f, _⟩ | ⟨e, f, _⟩ | ⟨e, f, _⟩ | ⟨e, f, _⟩
            · have HF := Lib.hid f
              clear f
              go_wp2_with (go_at_call 31; refine (class_any _ _).mono ?_; rintro e w' ⟨rfl, rfl⟩)
              go_round
              case rel =>
                refine ⟨k + 1, by omega, by go_num, fun j hj d hd => ?_⟩
                by_cases hjk : j < k
                · exact HA.out j hjk d hd
                · obtain rfl : j = k := by omega
                  rw [HG.out j hlt] at hd
                  cases hd
                  exact HF.out
              case measure => simp [intOf]; omega
            · have HF := Lib.hid f
              clear f
              go_wp2_with (go_at_call 31; refine (class_any _ _).mono ?_; rintro e w' ⟨rfl, rfl⟩)
              go_round
              case rel =>
                refine ⟨k + 1, by omega, by go_num, fun j hj d hd => ?_⟩
                by_cases hjk : j < k
                · exact HA.out j hjk d hd
                · obtain rfl : j = k := by omega
                  rw [HG.out j hlt] at hd
                  cases hd
                  exact HF.out
              case measure => simp [intOf]; omega
            · have HF := Lib.hid f
              clear f
              go_wp2_with (go_at_call 31; refine (class_any _ _).mono ?_; rintro e w' ⟨rfl, rfl⟩)
              go_round
              case rel =>
                refine ⟨k + 1, by omega, by go_num, fun j hj d hd => ?_⟩
                by_cases hjk : j < k
                · exact HA.out j hjk d hd
                · obtain rfl : j = k := by omega
                  rw [HG.out j hlt] at hd
                  cases hd
                  exact HF.out
              case measure => simp [intOf]; omega
            all_goals
              have HB := Lib.hid (nameB_bad (HG.out k hlt) f)
              clear f
              go_wp2_with (go_at_call 31; refine (class_any _ _).mono ?_; rintro e w' ⟨rfl, rfl⟩)
              go_ret
              exact ⟨ret_bool' HB.out, rfl⟩
          · have HB := Lib.hid (nameB_ok (HG.out 0 hpos) HC.out (by rw [size_data]; omega) (fun j hj d hd => HA.out j (by rw [size_data] at hj; omega) d hd))
            go_wp2
            go_ret
            exact ⟨ret_bool' HB.out, rfl⟩
abbrev tokV (t : Tok) : Value := .agg #[.int .i64 t.kind, strV t.text, .int .i64 t.n, .int .i64 t.pos]
theorem len_mk (l : List UInt8) : (⟨l.toArray⟩ : ByteArray).size = l.length := by rw [← size_data]
set_option maxHeartbeats 1000000 in
set_option maxRecDepth 100000 in
theorem valid_any (t : Tok) (w : World) (ht : okT t) : Calls Tryz.prog 49 #[tokV t] w fun e w' => e = .returned (.bool (validB t)) ∧ Below w.heap.size w w' := by
  obtain ⟨k, x, n, p⟩ := t
  obtain ⟨⟨k1, k2⟩, hx, ⟨n1, n2⟩, ⟨p1, p2⟩⟩ := ht
  simp only at k1 k2 hx n1 n2 p1 p2
  have hsz := len_mk x
  have HSZ := Lib.hid hsz
  have HBX := Lib.hid (box_below' w (.cells #[.int .i64 k, strV x, .int .i64 n, .int .i64 p] 72))
  have hlt : x.length ≤ 9223372036854775806 := by omega
  clear hsz
  unfold strV at *
  by_cases hk1 : k = 1
  · subst hk1
    cases hb : nameB x
    · have HV : Hid (validB ⟨1, x, n, p⟩ = false) := Lib.hid (by simp [validB, hb])
      go_enter Tryz.func49, Tryz.ntmps49
      go_wp2_with (go_at_call 73; refine (name_any _ _ ?_).mono ?_; (rw [HSZ.out]; exact hlt); rintro e w' ⟨rfl, rfl⟩)
      go_ret
      exact ⟨ret_bool' HV.out, HBX.out⟩
    · by_cases hn : n = 0
      · subst hn
        have HV : Hid (validB ⟨1, x, 0, p⟩ = true) := Lib.hid (by simp [validB, hb])
        go_enter Tryz.func49, Tryz.ntmps49
        go_wp2_with (go_at_call 73; refine (name_any _ _ ?_).mono ?_; (rw [HSZ.out]; exact hlt); rintro e w' ⟨rfl, rfl⟩)
        go_ret
        exact ⟨ret_bool' HV.out, HBX.out⟩
      · have hn' : (n == 0) = false := by simpa using hn
        have HV : Hid (validB ⟨1, x, n, p⟩ = false) := Lib.hid (by simp [validB, hb, hn])
        clear hn
        go_enter Tryz.func49, Tryz.ntmps49
        go_wp2_with (go_at_call 73; refine (name_any _ _ ?_).mono ?_; (rw [HSZ.out]; exact hlt); rintro e w' ⟨rfl, rfl⟩)
        go_ret
        exact ⟨ret_bool' HV.out, HBX.out⟩
  · have hk1' : (k == 1) = false := by simpa using hk1
    by_cases hk2 : k = 2
    · subst hk2
      clear hk1 hk1'
      by_cases hx0 : x = []
      · subst hx0
        by_cases hn0 : 0 ≤ n
        · by_cases hn1 : n ≤ 1099511627776
          · have HV : Hid (validB ⟨2, [], n, p⟩ = true) := Lib.hid (by simp [validB, hn0, hn1])
            go_enter Tryz.func49, Tryz.ntmps49
            go_wp2
            go_ret
            exact ⟨ret_bool' HV.out, HBX.out⟩
          · have HV : Hid (validB ⟨2, [], n, p⟩ = false) := Lib.hid (by simp [validB]; omega)
            go_enter Tryz.func49, Tryz.ntmps49
            go_wp2
            go_ret
            exact ⟨ret_bool' HV.out, HBX.out⟩
        · have HV : Hid (validB ⟨2, [], n, p⟩ = false) := Lib.hid (by simp [validB]; omega)
          go_enter Tryz.func49, Tryz.ntmps49
          go_wp2
          go_ret
          exact ⟨ret_bool' HV.out, HBX.out⟩
      · have HV : Hid (validB ⟨2, x, n, p⟩ = false) := Lib.hid (by simp [validB, hx0])
        obtain ⟨hE1, hE2⟩ := str_ne (s := ⟨x.toArray⟩) (by rw [HSZ.out]; exact List.length_pos_iff.2 hx0)
        go_enter Tryz.func49, Tryz.ntmps49
        go_wp2
        go_ret
        exact ⟨ret_bool' HV.out, HBX.out⟩
    · have hk2' : (k == 2) = false := by simpa using hk2
      by_cases hk3 : k = 3
      · subst hk3
        clear hk1 hk2 hk1' hk2'
        by_cases hl : x.length = 1
        · obtain ⟨c, rfl⟩ := List.length_eq_one_iff.1 hl
          clear hl
          have hE : (cls c == 4) = isSgn c := by
            unfold cls
            cases h5 : isSgn c
            · simp only [Bool.false_eq_true, if_false]
              repeat' split
              all_goals rfl
            · obtain ⟨g1, g2, g3, g4⟩ := sgn_class h5
              have : c.toNat ≠ 95 := fun e => by unfold isPart at g4; simp [e] at g4
              simp [g1, g2, g3, this]
          cases h5 : isSgn c
          · have HV : Hid (validB ⟨3, [c], n, p⟩ = false) := Lib.hid (by simp [validB, h5])
            rw [h5] at hE
            clear h5
            go_enter Tryz.func49, Tryz.ntmps49
            go_wp2_with (go_at_call 31; refine (class_any c _).mono ?_; rintro e w' ⟨rfl, rfl⟩)
            go_ret
            exact ⟨ret_bool' HV.out, HBX.out⟩
          · rw [h5] at hE
            by_cases hn : n = 0
            · subst hn
              have HV : Hid (validB ⟨3, [c], 0, p⟩ = true) := Lib.hid (by simp [validB, h5])
              clear h5
              go_enter Tryz.func49, Tryz.ntmps49
              go_wp2_with (go_at_call 31; refine (class_any c _).mono ?_; rintro e w' ⟨rfl, rfl⟩)
              go_ret
              exact ⟨ret_bool' HV.out, HBX.out⟩
            · have HV : Hid (validB ⟨3, [c], n, p⟩ = false) := Lib.hid (by simp [validB, hn])
              have hn' : (n == 0) = false := by simpa using hn
              clear h5 hn
              go_enter Tryz.func49, Tryz.ntmps49
              go_wp2_with (go_at_call 31; refine (class_any c _).mono ?_; rintro e w' ⟨rfl, rfl⟩)
              go_ret
              exact ⟨ret_bool' HV.out, HBX.out⟩
        · have HV : Hid (validB ⟨3, x, n, p⟩ = false) := Lib.hid (by
            match x, hl with
            | [], _ => rfl
            | a :: b :: r, _ => rfl)
          have hl1 : ((x.length : Int) == 1) = false := by simp; omega
          have hl2 : (((⟨x.toArray⟩ : ByteArray).size : Int) == 1) = false := by rw [HSZ.out]; exact hl1
          clear hl
          go_enter Tryz.func49, Tryz.ntmps49
          go_wp2
          go_ret
          exact ⟨ret_bool' HV.out, HBX.out⟩
      · have HV : Hid (validB ⟨k, x, n, p⟩ = false) := Lib.hid (by simp [validB, hk1, hk2, hk3])
        have hk3' : (k == 3) = false := by simpa using hk3
        clear hk1 hk2 hk3
        go_enter Tryz.func49, Tryz.ntmps49
        go_wp2
        go_ret
        exact ⟨ret_bool' HV.out, HBX.out⟩
end Go.Proofs.YtfnmidddgjlipaaGreatDoor
