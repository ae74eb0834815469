/-
  Layer 3: the walk of (*scanner).run.
-/
import Derived.Test.YtfnmidddgjlipaaGreatDoorLx4
import Derived.Deep.QuietTactic
import Derived.BigQuiet
import Derived.Deep.CutRange
set_option linter.unusedVariables false
set_option linter.unusedSimpArgs false
namespace Go.Proofs.YtfnmidddgjlipaaGreatDoor
open Go.RowKit

theorem ret_str {s : ByteArray} {l : List UInt8} (h : s = ⟨l.toArray⟩) : Ending.returned (.string s) = .returned (strV l) := by rw [h]
theorem ba_ext {a b : ByteArray} (h : a.data.toList = b.data.toList) : a = b := by
  obtain ⟨⟨l⟩⟩ := a
  obtain ⟨⟨m⟩⟩ := b
  simp at h
  subst h
  rfl
theorem extract_list (s : ByteArray) (a b : Nat) : (s.extract a b).data.toList = (s.data.toList.drop a).take (b - a) := by
  obtain ⟨⟨l⟩⟩ := s
  simp [ByteArray.data_extract, List.extract_eq_take_drop]
theorem tw_len {p : UInt8 → Bool} : ∀ {l : List UInt8} {n : Nat}, n ≤ l.length → (∀ j c, j < n → l[j]? = some c → p c = true) → (∀ c, l[n]? = some c → p c = false) → (l.takeWhile p) = l.take n
  | [], n, h, _, _ => by simp at h; subst h; rfl
  | c :: l, 0, _, _, hn => by rw [List.takeWhile_cons, if_neg (by rw [hn c rfl]; simp)]; rfl
  | c :: l, n + 1, h, ha, hn => by
    rw [List.takeWhile_cons, if_pos (ha 0 c (by omega) rfl), List.take_succ_cons]
    rw [tw_len (l := l) (n := n) (by simpa using h) (fun j d hj hd => ha (j + 1) d (by omega) (by simpa using hd)) (fun d hd => hn d (by simpa using hd))]

def runP (zs : List Int) (c : UInt8) : Bool := zs.contains (cls c)
/-- the run from a place on -/
def runL (src : ByteArray) (at_ : Nat) (zs : List Int) : List UInt8 := (src.data.toList.drop at_).takeWhile (runP zs)
theorem run_end {src : ByteArray} {at_ k : Nat} {zs : List Int} (h1 : at_ ≤ k) (h2 : k ≤ src.size) (ha : ∀ j (hj : j < src.size), at_ ≤ j → j < k → runP zs src[j] = true) (hn : ∀ (h : k < src.size), runP zs src[k] = false) :
    src.extract at_ k = ⟨(runL src at_ zs).toArray⟩ := by
  apply ba_ext
  rw [extract_list]
  have hl : src.data.toList.length = src.size := size_data src
  have := tw_len (p := runP zs) (l := src.data.toList.drop at_) (n := k - at_) (by simp only [List.length_drop, hl]; omega) (fun j c hj hc => by
    rw [List.getElem?_drop] at hc
    rw [data_get (by omega)] at hc
    cases hc
    exact ha (at_ + j) (by omega) (by omega) (by omega)) (fun c hc => by
    rw [List.getElem?_drop, show at_ + (k - at_) = k by omega] at hc
    have hk : k < src.size := by have := (List.getElem?_eq_some_iff.1 hc).1; omega
    rw [data_get hk] at hc
    cases hc
    exact hn hk)
  unfold runL
  rw [this]

set_option maxHeartbeats 1000000 in
set_option maxRecDepth 100000 in
theorem run_any (S g n c : Nat) (src : ByteArray) (at_ : Nat) (zs : List Int) (w : World) (hS0 : w.cell? ⟨S, 0, none⟩ = some (.string src)) (hS1 : w.cell? ⟨S, 1, none⟩ = some (.int .i64 (at_ : Int)))
    (hg : ∀ j, j < zs.length → w.cell? ⟨g, 0 + j, none⟩ = some (.int .i64 (zs.getD j 0))) (hn : n = zs.length) (hz : zs.length ≤ 100) (hat : at_ ≤ src.size) (hs : src.size ≤ 9223372036854775806) :
    Calls Tryz.prog 57 #[.pointer (some ⟨S, 0, none⟩), .slice (some ⟨g, 0, none⟩) n c] w fun e w' => e = .returned (strV (runL src at_ zs)) ∧ Drew w w' := by
  have HG := Lib.hid hg
  have HN := Lib.hid hn
  clear hg hn
  go_enter Tryz.func57, Tryz.ntmps57
  go_wp2_with fail
  go_loop [5] (fun i => ∃ k : Nat, at_ ≤ k ∧ k ≤ src.size ∧ i = .int .i64 k ∧ ∀ j (hj : j < src.size), at_ ≤ j → j < k → runP zs src[j] = true) (fun i => src.size - (intOf i).toNat)
  case atStart => exact ⟨at_, Nat.le_refl _, hat, rfl, fun j _ h1 h2 => by omega⟩
  case round =>
    obtain ⟨k, hk0, hk, rfl, hall⟩ := hrel
    have HA := Lib.hid hall
    clear hall
    by_cases hlt : k < src.size
    · cases hr : runP zs src[k] with
      | true =>
        have HR := Lib.hid hr
        have HC : Hid (((zs.take n).contains (cls src[k])) = true) := Lib.hid (by rw [HN.out, List.take_length]; exact hr)
        clear hr
        go_wp2_with (first
          | (go_at_call 31; refine (class_any _ _).mono ?_; rintro e w' ⟨rfl, rfl⟩)
          | (go_at_call 78; refine (Tryz.slices_Contains_int _ _ _ _ zs _ _ (Nat.le_of_eq HN.out) (by rw [HN.out]; omega) HG.out).mono ?_; rintro e w' ⟨rfl, rfl⟩; rw [HC.out]))
        go_round
        case rel =>
          refine ⟨k + 1, by omega, by omega, by go_num, fun j hj h1 h2 => ?_⟩
          by_cases hjk : j < k
          · exact HA.out j hj h1 hjk
          · obtain rfl : j = k := by omega
            exact HR.out
        case measure => simp [intOf]; omega
      | false =>
        have HR := Lib.hid hr
        have HC : Hid (((zs.take n).contains (cls src[k])) = false) := Lib.hid (by rw [HN.out, List.take_length]; exact hr)
        have HE := Lib.hid (run_end hk0 hk HA.out (fun _ => hr))
        clear hr
        go_wp2_with (first
          | (go_at_call 31; refine (class_any _ _).mono ?_; rintro e w' ⟨rfl, rfl⟩)
          | (go_at_call 78; refine (Tryz.slices_Contains_int _ _ _ _ zs _ _ (Nat.le_of_eq HN.out) (by rw [HN.out]; omega) HG.out).mono ?_; rintro e w' ⟨rfl, rfl⟩; rw [HC.out]))
        have b1 : (0 : Int) ≤ (at_ : Int) := by omega
        have b2 : (at_ : Int) ≤ (k : Int) := by omega
        have b3 : (k : Int) ≤ (src.size : Int) := by omega
        go_quiet (fail)
        go_wp2_with fail
        go_ret
        exact ⟨ret_str HE.out, ⟨_, rfl⟩⟩
    · obtain rfl : k = src.size := by omega
      have HE := Lib.hid (run_end hk0 hk HA.out (fun h => absurd h (Nat.lt_irrefl _)))
      go_wp2_with fail
      have b1 : (0 : Int) ≤ (at_ : Int) := by omega
      have b2 : (at_ : Int) ≤ (src.size : Int) := by omega
      go_quiet (fail)
      go_wp2_with fail
      go_ret
      exact ⟨ret_str HE.out, ⟨_, rfl⟩⟩
end Go.Proofs.YtfnmidddgjlipaaGreatDoor
