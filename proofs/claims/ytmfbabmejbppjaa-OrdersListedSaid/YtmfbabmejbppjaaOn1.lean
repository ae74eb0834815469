/-
  Layer 3 at the orders seat: the walks of lex.class, lex.Name.
-/
import Derived.Test.YtmfbabmejbppjaaLib
import Derived.Test.YtmfbabmejbppjaaLx1
import Derived.Test.YtmfbabmejbppjaaShl18
import Derived.IntWalk
import Derived.Laws.Closers25b
set_option linter.unusedVariables false
set_option linter.unusedSimpArgs false
namespace Go.Proofs.Ytmfbabmejbppjaa
open Go.RowKit

/-- the class of a byte, as the code numbers them -/
def cls (c : UInt8) : Int := if isLet c then 2 else if isDig c then 3 else if c.toNat = 95 then 5 else if isSpc c then 1 else if isSgn c then 4 else 0
theorem idx_mem (c : UInt8) : ∀ (l : List UInt8), 0 ≤ Go.Lib.indexByte l c ↔ l.contains c = true
  | [] => by simp [Go.Lib.indexByte]
  | a :: r => by
    have ih := idx_mem c r
    have hge := Go.Lib.indexByte_ge r c
    unfold Go.Lib.indexByte
    by_cases h : a = c
    · subst h; simp
    · have h1 : (a == c) = false := by simpa using h
      have h2 : (c == a) = false := by simp; exact fun e => h e.symm
      simp only [h1, List.contains_cons, h2, Bool.false_or, ← ih]
      by_cases h3 : Go.Lib.indexByte r c = -1
      · simp [h3]
      · simp [h3]; omega
theorem idx_sgn (c : UInt8) : (0 ≤ Go.Lib.indexByte [123, 125, 40, 41, 59, 44, 61, 58, 46, 60, 62, 33, 43, 45, 42, 47] c) ↔ isSgn c = true := idx_mem c _
theorem cls_let {c : UInt8} (h : (97 ≤ (c.toNat : Int) ∧ (c.toNat : Int) ≤ 122) ∨ (65 ≤ (c.toNat : Int) ∧ (c.toNat : Int) ≤ 90)) : cls c = 2 := by
  have : isLet c = true := by unfold isLet; simp; omega
  unfold cls; rw [if_pos this]
theorem cls_dig {c : UInt8} (h : 48 ≤ (c.toNat : Int) ∧ (c.toNat : Int) ≤ 57) : cls c = 3 := by
  have h1 : isLet c = false := by unfold isLet; simp; omega
  have h2 : isDig c = true := by unfold isDig; simp; omega
  unfold cls; simp [h1, h2]
theorem cls_line {c : UInt8} (h : (c.toNat : Int) = 95) : cls c = 5 := by
  have h1 : isLet c = false := by unfold isLet; simp; omega
  have h2 : isDig c = false := by unfold isDig; simp; omega
  have h3 : c.toNat = 95 := by omega
  unfold cls; simp [h1, h2, h3]
theorem cls_spc {c : UInt8} (h : (c.toNat : Int) = 32 ∨ (c.toNat : Int) = 9 ∨ (c.toNat : Int) = 10 ∨ (c.toNat : Int) = 13) : cls c = 1 := by
  have h1 : isLet c = false := by unfold isLet; simp; omega
  have h2 : isDig c = false := by unfold isDig; simp; omega
  have h3 : c.toNat ≠ 95 := by omega
  have h4 : isSpc c = true := by unfold isSpc; simp; omega
  unfold cls; simp [h1, h2, h3, h4]
theorem cls_rest {c : UInt8} (a : ¬ ((97 ≤ (c.toNat : Int) ∧ (c.toNat : Int) ≤ 122) ∨ (65 ≤ (c.toNat : Int) ∧ (c.toNat : Int) ≤ 90))) (b : ¬ (48 ≤ (c.toNat : Int) ∧ (c.toNat : Int) ≤ 57)) (d : (c.toNat : Int) ≠ 95)
    (e : ¬ ((c.toNat : Int) = 32 ∨ (c.toNat : Int) = 9 ∨ (c.toNat : Int) = 10 ∨ (c.toNat : Int) = 13)) : cls c = if isSgn c then 4 else 0 := by
  have h1 : isLet c = false := by unfold isLet; simp; omega
  have h2 : isDig c = false := by unfold isDig; simp; omega
  have h3 : c.toNat ≠ 95 := by omega
  have h4 : isSpc c = false := by unfold isSpc; simp; omega
  unfold cls; simp [h1, h2, h3, h4]
theorem ret_int' {k : IntKind} {a b : Int} (h : b = a) : Ending.returned (.int k a) = .returned (.int k b) := by rw [h]
theorem ret_bool' {a b : Bool} (h : b = a) : Ending.returned (.bool a) = .returned (.bool b) := by rw [h]

set_option maxHeartbeats 1000000 in
set_option maxRecDepth 100000 in
theorem class_any (c : UInt8) (w : World) : Calls Try.prog 45 #[.int .u8 (c.toNat : Int)] w fun e w' => e = .returned (.int .i64 (cls c)) ∧ w' = w := by
  have h255 : (c.toNat : Int) < 256 := by have := c.toNat_lt; omega
  go_enter Try.func45, Try.ntmps45
  go_wp2_with (go_at_call 51; refine (Try.strings_IndexByte _ _ _).mono ?_; rintro e w' ⟨rfl, rfl⟩)
  all_goals
    go_ret
    refine ⟨ret_int' ?_, rfl⟩
    first
      | (refine cls_let ?_; ((try simp only [beq_iff_eq, beq_eq_false_iff_ne, ne_eq] at *); omega))
      | (refine cls_dig ?_; ((try simp only [beq_iff_eq, beq_eq_false_iff_ne, ne_eq] at *); omega))
      | (refine cls_line ?_; ((try simp only [beq_iff_eq, beq_eq_false_iff_ne, ne_eq] at *); omega))
      | (refine cls_spc ?_; ((try simp only [beq_iff_eq, beq_eq_false_iff_ne, ne_eq] at *); omega))
      | (refine (cls_rest ?_ ?_ ?_ ?_).trans ?_
         focus ((try simp only [beq_iff_eq, beq_eq_false_iff_ne, ne_eq] at *); omega)
         focus ((try simp only [beq_iff_eq, beq_eq_false_iff_ne, ne_eq] at *); omega)
         focus ((try simp only [beq_iff_eq, beq_eq_false_iff_ne, ne_eq] at *); omega)
         focus ((try simp only [beq_iff_eq, beq_eq_false_iff_ne, ne_eq] at *); omega)
         first
           | exact if_pos ((idx_sgn c).1 (by assumption))
           | exact if_neg (fun h => absurd ((idx_sgn c).2 h) (by omega)))

theorem cls_cases (c : UInt8) : (cls c = 2 ∧ isPart c = true ∧ isLet c = true) ∨ (cls c = 3 ∧ isPart c = true ∧ isLet c = false) ∨ (cls c = 5 ∧ isPart c = true ∧ isLet c = false) ∨
    (cls c = 1 ∧ isPart c = false ∧ isLet c = false) ∨ (cls c = 4 ∧ isPart c = false ∧ isLet c = false) ∨ (cls c = 0 ∧ isPart c = false ∧ isLet c = false) := by
  unfold cls isPart
  cases h1 : isLet c
  · cases h2 : isDig c
    · by_cases h3 : c.toNat = 95
      · simp [h3]
      · cases h4 : isSpc c
        · cases h5 : isSgn c <;> simp [h3]
        · simp [h3]
    · simp
  · simp
theorem size_data (s : ByteArray) : s.data.toList.length = s.size := by rw [Array.length_toList]; rfl
theorem data_get {s : ByteArray} {k : Nat} (h : k < s.size) : s.data.toList[k]? = some s[k] := by
  rw [List.getElem?_eq_getElem (by rw [size_data]; exact h)]; rfl
theorem str_ne {s : ByteArray} (h : 0 < s.size) : s.toList.isEmpty = false ∧ ¬ s.toList = [] := by
  have : ¬ s.toList = [] := by
    rw [toList_nil_iff_emptyBytes]
    rintro rfl
    simp at h
  exact ⟨by simpa using this, this⟩
theorem str_zero {s : ByteArray} (h : s.size = 0) : s = ByteArray.empty := by
  obtain ⟨⟨l⟩⟩ := s
  have : l = [] := by simpa [ByteArray.size] using h
  subst this
  rfl
theorem nameB_big {l : List UInt8} (h : 32 < l.length) : nameB l = false := by
  match l with
  | c :: r => simp only [nameB]; rw [decide_eq_false (by omega)]; rfl
theorem nameB_first {l : List UInt8} {c : UInt8} (h : l[0]? = some c) (hc : isLet c = false) : nameB l = false := by
  match l, h with
  | a :: r, h =>
    obtain rfl : a = c := by simpa using h
    simp [nameB, hc]
theorem nameB_bad {l : List UInt8} {k : Nat} {c : UInt8} (h : l[k]? = some c) (hc : isPart c = false) : nameB l = false := by
  match l, h with
  | a :: r, h =>
    simp only [nameB]
    have : (a :: r).all isPart = false := by
      rw [List.all_eq_false]
      exact ⟨c, List.mem_of_getElem? h, by simp [hc]⟩
    rw [this, Bool.and_false]
theorem nameB_ok {l : List UInt8} {c : UInt8} (h0 : l[0]? = some c) (hc : isLet c = true) (hn : l.length ≤ 32) (h : ∀ k, k < l.length → ∀ d, l[k]? = some d → isPart d = true) : nameB l = true := by
  match l, h0 with
  | a :: r, h0 =>
    obtain rfl : a = c := by simpa using h0
    simp only [nameB, Bool.and_eq_true, decide_eq_true_eq, List.all_eq_true]
    refine ⟨⟨hn, hc⟩, fun d hd => ?_⟩
    obtain ⟨k, hk⟩ := List.getElem?_of_mem hd
    exact h k (List.getElem?_eq_some_iff.1 hk).1 d hk

set_option maxHeartbeats 1000000 in
set_option maxRecDepth 100000 in
theorem name_any (s : ByteArray) (w : World) (hs : s.size ≤ 9223372036854775806) : Calls Try.prog 37 #[.string s] w fun e w' => e = .returned (.bool (nameB s.data.toList)) ∧ w' = w := by
  by_cases h0 : s.size = 0
  · obtain rfl := str_zero h0
    clear h0 hs
    go_enter Try.func37, Try.ntmps37
    go_wp2
    go_ret
    exact ⟨rfl, rfl⟩
  · obtain ⟨hE1, hE2⟩ := str_ne (s := s) (by omega)
    by_cases h32 : 32 < s.size
    · have HB := Lib.hid (nameB_big (l := s.data.toList) (by rw [size_data]; exact h32))
      go_enter Try.func37, Try.ntmps37
      go_wp2
      go_ret
      exact ⟨ret_bool' HB.out, rfl⟩
    · have hpos : 0 < s.size := by omega
      have HG := Lib.hid (fun k (hk : k < s.size) => data_get hk)
      cases hc : isLet s[0] with
      | false =>
        have HB := Lib.hid (nameB_first (HG.out 0 hpos) hc)
        have hne : (cls s[0] != 2) = true := by
          rcases cls_cases s[0] with ⟨e, _, f⟩ | ⟨e, _, f⟩ | ⟨e, _, f⟩ | ⟨e, _, f⟩ | ⟨e, _, f⟩ | ⟨e, _, f⟩
          · rw [hc] at f; cases f
          all_goals rw [e]; rfl
        clear hc
        go_enter Try.func37, Try.ntmps37
        go_wp2_with (go_at_call 45; refine (class_any _ _).mono ?_; rintro e w' ⟨rfl, rfl⟩)
        go_ret
        exact ⟨ret_bool' HB.out, rfl⟩
      | true =>
        have HC := Lib.hid hc
        have hne : (cls s[0] != 2) = false := by
          rcases cls_cases s[0] with ⟨e, _, f⟩ | ⟨e, _, f⟩ | ⟨e, _, f⟩ | ⟨e, _, f⟩ | ⟨e, _, f⟩ | ⟨e, _, f⟩
          · rw [e]; rfl
          all_goals rw [hc] at f; cases f
        clear hc
        go_enter Try.func37, Try.ntmps37
        go_wp2_with (go_at_call 45; refine (class_any _ _).mono ?_; rintro e w' ⟨rfl, rfl⟩)
        clear hne
        go_loop [20] (fun i => ∃ k : Nat, k ≤ s.size ∧ i = .int .i64 k ∧ ∀ j, j < k → ∀ d, s.data.toList[j]? = some d → isPart d = true) (fun i => s.size - (intOf i).toNat)
        case atStart => exact ⟨0, Nat.zero_le _, rfl, fun j hj => by omega⟩
        case round =>
          obtain ⟨k, hk, rfl, hall⟩ := hrel
          have HA := Lib.hid hall
          clear hall
          by_cases hlt : k < s.size
          · rcases cls_cases s[k] with ⟨e, f, _⟩ | ⟨e, f, _⟩ | ⟨e, f, _⟩ | ⟨e, f, _⟩ | ⟨e, f, _⟩ | ⟨e, f, _⟩
            · have HF := Lib.hid f
              clear f
              go_wp2_with (go_at_call 45; refine (class_any _ _).mono ?_; rintro e w' ⟨rfl, rfl⟩)
              go_round
              case rel =>
                refine ⟨k + 1, by omega, by go_num, fun j hj d hd => ?_⟩
                by_cases hjk : j < k
                · exact HA.out j hjk d hd
                · obtain rfl : j = k := by omega
                  rw [HG.out j hlt] at hd
                  cases hd
                  exact HF.out
              case measure => simp [intOf]; omega
            · have HF := Lib.hid f
              clear f
              go_wp2_with (go_at_call 45; refine (class_any _ _).mono ?_; rintro e w' ⟨rfl, rfl⟩)
              go_round
              case rel =>
                refine ⟨k + 1, by omega, by go_num, fun j hj d hd => ?_⟩
                by_cases hjk : j < k
                · exact HA.out j hjk d hd
                · obtain rfl : j = k := by omega
                  rw [HG.out j hlt] at hd
                  cases hd
                  exact HF.out
              case measure => simp [intOf]; omega
            · have HF := Lib.hid f
              clear f
              go_wp2_with (go_at_call 45; refine (class_any _ _).mono ?_; rintro e w' ⟨rfl, rfl⟩)
              go_round
              case rel =>
                refine ⟨k + 1, by omega, by go_num, fun j hj d hd => ?_⟩
                by_cases hjk : j < k
                · exact HA.out j hjk d hd
                · obtain rfl : j = k := by omega
                  rw [HG.out j hlt] at hd
                  cases hd
                  exact HF.out
              case measure => simp [intOf]; omega
            all_goals
              have HB := Lib.hid (nameB_bad (HG.out k hlt) f)
              clear f
              go_wp2_with (go_at_call 45; refine (class_any _ _).mono ?_; rintro e w' ⟨rfl, rfl⟩)
              go_ret
              exact ⟨ret_bool' HB.out, rfl⟩
          · have HB := Lib.hid (nameB_ok (HG.out 0 hpos) HC.out (by rw [size_data]; omega) (fun j hj d hd => HA.out j (by rw [size_data] at hj; omega) d hd))
            go_wp2
            go_ret
            exact ⟨ret_bool' HB.out, rfl⟩
theorem len_mk (l : List UInt8) : (⟨l.toArray⟩ : ByteArray).size = l.length := by rw [← size_data]
end Go.Proofs.Ytmfbabmejbppjaa
