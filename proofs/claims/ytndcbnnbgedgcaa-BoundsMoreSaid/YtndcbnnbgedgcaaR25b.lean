/-
  The walks of frankingref25.Perm, Before, Gone.
-/
import Derived.Test.YtndcbnnbgedgcaaR25a
set_option linter.unusedVariables false
set_option linter.unusedSimpArgs false
namespace Go.Proofs.Ytndcbnnbgedgcaa
open Go.RowKit

/-- frankingref25.Perm -/
theorem perm_any (B : Nat) (w : World) (v : Value) (zs : List Int) (n : Int) (hv : IsInts B w v zs) :
    Calls Try.prog 90 #[v, .int .i64 n] w fun e w' => e = .returned (.bool (permB zs n)) ∧ Drew w w' := by
  have HV := Lib.hid hv
  obtain ⟨b, off, cap, ⟨a, rfl, hcap, hmax, ha⟩, hlen, hz, hc⟩ := hv
  go_enter Try.func90, Try.ntmps90
  go_wp2
  go_loop [5] (fun i => ∃ k : Nat, k ≤ zs.length ∧ i = .int .i64 k ∧ inB (zs.take k) n = true) (fun i => zs.length - (intOf i).toNat)
  case atStart => exact ⟨0, by omega, rfl, rfl⟩
  case round =>
    obtain ⟨k, hk, rfl, hno⟩ := hrel
    have HN := Lib.hid hno
    clear hno
    by_cases hlt : k < zs.length
    · obtain rfl : a = some ⟨b, off, none⟩ := by rcases ha with ha | ha; exact ha; omega
      have hcell := (hc k hlt).2
      have HS := Lib.hid (inB_succ (n := n) hlt)
      clear ha hc
      by_cases h1 : nth zs k < 0
      · have HT : Hid (permB zs n = false) := by
          refine Lib.hid ?_
          unfold permB
          rw [inB_take_false (k := k + 1) (by rw [HS.out, decide_eq_false (by omega : ¬ 0 ≤ nth zs k)]; simp)]; rfl
        go_wp2
        go_ret
        exact ⟨by rw [HT.out]; rfl, Drew.refl _⟩
      · have h1' : decide (nth zs k < 0) = false := decide_eq_false h1
        by_cases h2 : n ≤ nth zs k
        · have HT : Hid (permB zs n = false) := by
            refine Lib.hid ?_
            unfold permB
            rw [inB_take_false (k := k + 1) (by rw [HS.out, decide_eq_false (by omega : ¬ nth zs k < n)]; simp)]; rfl
          go_wp2
          go_ret
          exact ⟨by rw [HT.out]; rfl, Drew.refl _⟩
        · have h2' : decide (n ≤ nth zs k) = false := decide_eq_false h2
          have HT : Hid (inB (zs.take (k + 1)) n = true) := by
            refine Lib.hid ?_
            rw [HS.out, HN.out, decide_eq_true (by omega : 0 ≤ nth zs k), decide_eq_true (by omega : nth zs k < n)]; rfl
          go_wp2
          go_round
          case rel => exact ⟨k + 1, by omega, by go_num, HT.out⟩
          case measure => simp [intOf]; omega
    · have HT : Hid (inB zs n = true) := Lib.hid (by rw [← inB_take_all (k := k) (by omega)]; exact HN.out)
      have HP : Hid (permB zs n = (decide ((zs.length : Int) = n) && diffB zs)) := Lib.hid (by unfold permB; rw [HT.out]; rfl)
      clear hc
      by_cases hl : (zs.length : Int) = n
      · have hl' : ((zs.length : Int) == n) = true := by simpa using hl
        have HL := Lib.hid hl
        clear hl
        go_wp2_with (go_at_call 89; refine (different_any _ _ _ _ HV.out).mono ?_; rintro e w' ⟨rfl, hd⟩; have HD := Lib.hid hd; clear hd)
        go_ret
        exact ⟨by rw [HP.out, decide_eq_true HL.out]; rfl, HD.out⟩
      · have hl' : ((zs.length : Int) == n) = false := by simpa using hl
        have HL := Lib.hid hl
        clear hl
        go_wp2
        go_ret
        exact ⟨by rw [HP.out, decide_eq_false HL.out]; rfl, Drew.refl _⟩

theorem IsLots.lens {B : Nat} {w : World} {v : Value} {ls : List Lot} (h : IsLots B w v ls) : ∀ d ∈ ls, d.ins.length ≤ 17592186043904 ∧ d.perm.length ≤ 17592186043904 := by
  obtain ⟨b, off, cap, _, _, hl⟩ := h
  intro d hd
  obtain ⟨j, hj, rfl⟩ := List.getElem_of_mem hd
  obtain ⟨vi, vk, vp, _, _, _, ⟨_, _, _, _, h1, _⟩, _, ⟨_, _, _, _, h2, _⟩⟩ := hl j hj
  have e : lotAt ls j = ls[j] := by unfold lotAt; rw [List.getD_eq_getElem?_getD, List.getElem?_eq_getElem hj]; rfl
  rw [e] at h1 h2
  exact ⟨h1, h2⟩

/-- frankingref25.Before -/
theorem before_any (B : Nat) (w : World) (vs vl : Value) (f : Flow) (m : Nat) (hf : IsFlow B w vs vl f) (hB : B ≤ w.heap.size) (hm : m ≤ f.lots.length) (hm2 : m ≤ 2000) (hs : f.senders ≤ 64) :
    Calls Try.prog 43 #[.agg #[vs, vl], .int .i64 m] w fun e w' => e = .returned (.int .i64 (beforeI f m)) ∧ Below w.heap.size w w' := by
  obtain ⟨rfl, ⟨hs1, _⟩, hl⟩ := hf
  have HLen := Lib.hid (beforeI_le (f := f) fun d hd => (hl.lens d hd).1)
  obtain ⟨b, off, cap, ⟨a, rfl, hcap, hmax, ha⟩, hlen, hc⟩ := hl
  go_enter Try.func43, Try.ntmps43
  go_wp2
  go_loop [5, 6] (fun n i => ∃ k : Nat, k ≤ m ∧ i = .int .i64 k ∧ n = .int .i64 (beforeI f k)) (fun _ i => m - (intOf i).toNat)
  case atStart => exact ⟨0, by omega, rfl, rfl⟩
  case round =>
    obtain ⟨k, hk, rfl, rfl⟩ := hrel
    by_cases hlt : k < m
    · obtain rfl : a = some ⟨b, off, none⟩ := by rcases ha with ha | ha; exact ha; omega
      obtain ⟨vi, vk, vp, ⟨hb, c1⟩, _, _, ⟨b1, off1, cap1, ⟨a1, rfl, _⟩, hl1, _⟩, _⟩ := hc k (by omega)
      have hbB : b < w.heap.size := by omega
      obtain ⟨h1, h2⟩ := HLen.out k (by omega)
      have HS : Hid (beforeI f (k + 1) = beforeI f k + (lotAt f.lots k).ins.length) := Lib.hid rfl
      clear ha hc
      go_wp2
      go_round
      case rel => exact ⟨k + 1, by omega, by go_num, by rw [HS.out]⟩
      case measure => simp [intOf]; omega
    · obtain rfl : k = m := by omega
      clear hc
      go_wp2
      go_ret
      exact ⟨rfl, (Below.refl _ _).alloc (Nat.le_refl _) _⟩

/-- frankingref25.Gone -/
theorem gone_any (B : Nat) (w : World) (vs vl : Value) (f : Flow) (s : Int) (m : Nat) (hf : IsFlow B w vs vl f) (hB : B ≤ w.heap.size) (hm : m ≤ f.lots.length) :
    Calls Try.prog 44 #[.agg #[vs, vl], .int .i64 s, .int .i64 m] w fun e w' => e = .returned (.bool (goneB f s m)) ∧ Below w.heap.size w w' := by
  obtain ⟨rfl, ⟨hs1, _⟩, hl⟩ := hf
  obtain ⟨b, off, cap, ⟨a, rfl, hcap, hmax, ha⟩, hlen, hc⟩ := hl
  go_enter Try.func44, Try.ntmps44
  go_wp2
  go_loop [7] (fun i => ∃ k : Nat, k ≤ m ∧ i = .int .i64 k ∧ goneB f s k = false) (fun i => m - (intOf i).toNat)
  case atStart => exact ⟨0, by omega, rfl, rfl⟩
  case round =>
    obtain ⟨k, hk, rfl, hno⟩ := hrel
    have HN := Lib.hid hno
    clear hno
    by_cases hlt : k < m
    · obtain rfl : a = some ⟨b, off, none⟩ := by rcases ha with ha | ha; exact ha; omega
      obtain ⟨vi, vk, vp, ⟨hb, c1⟩, _, _, hi, _⟩ := hc k (by omega)
      have hbB : b < w.heap.size := by omega
      have HC := Lib.hid (fun o => has_any B (w.alloc o) vi (lotAt f.lots k).ins s (hi.below ((Below.refl B w).alloc hB o) (Nat.le_refl _)))
      have HS : Hid (goneB f s (k + 1) = (goneB f s k || hasB (lotAt f.lots k).ins s)) := Lib.hid rfl
      clear ha hc hi
      cases he : hasB (lotAt f.lots k).ins s
      · have HE := Lib.hid he
        clear he
        go_wp2_with (go_at_call 23; refine (HC.out _).mono ?_; rintro e w' ⟨rfl, rfl⟩; rw [HE.out])
        go_round
        case rel => exact ⟨k + 1, by omega, by go_num, by rw [HS.out, HN.out, HE.out]; rfl⟩
        case measure => simp [intOf]; omega
      · have HE := Lib.hid he
        clear he
        go_wp2_with (go_at_call 23; refine (HC.out _).mono ?_; rintro e w' ⟨rfl, rfl⟩; rw [HE.out])
        go_ret
        exact ⟨by rw [goneB_of (k := k + 1) (m := m) (by rw [HS.out, HE.out]; simp) (by omega)]; rfl, (Below.refl _ _).alloc (Nat.le_refl _) _⟩
    · obtain rfl : k = m := by omega
      clear hc
      go_wp2
      go_ret
      exact ⟨by rw [HN.out]; rfl, (Below.refl _ _).alloc (Nat.le_refl _) _⟩

end Go.Proofs.Ytndcbnnbgedgcaa
