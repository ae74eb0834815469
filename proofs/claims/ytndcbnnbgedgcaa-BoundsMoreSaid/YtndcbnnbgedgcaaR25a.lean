/-
  The walks of frankingref25.Has, SameInts, Different, Perm.
-/
import Derived.Test.YtndcbnnbgedgcaaRows
import Derived.Test.YtndcbnnbgedgcaaS25
set_option linter.unusedVariables false
set_option linter.unusedSimpArgs false
namespace Go.Proofs.Ytndcbnnbgedgcaa
open Go.RowKit

/-- frankingref25.Has -/
theorem has_any (B : Nat) (w : World) (v : Value) (zs : List Int) (n : Int) (hv : IsInts B w v zs) :
    Calls Try.prog 23 #[v, .int .i64 n] w fun e w' => e = .returned (.bool (hasB zs n)) ∧ w' = w := by
  obtain ⟨b, off, cap, ⟨a, rfl, hcap, hmax, ha⟩, hlen, hz, hc⟩ := hv
  go_enter Try.func23, Try.ntmps23
  go_wp2
  go_loop [5] (fun i => ∃ k : Nat, k ≤ zs.length ∧ i = .int .i64 k ∧ hasB (zs.take k) n = false) (fun i => zs.length - (intOf i).toNat)
  case atStart => exact ⟨0, by omega, rfl, rfl⟩
  case round =>
    obtain ⟨k, hk, rfl, hno⟩ := hrel
    have HN := Lib.hid hno
    clear hno
    by_cases hlt : k < zs.length
    · obtain rfl : a = some ⟨b, off, none⟩ := by rcases ha with ha | ha; exact ha; omega
      have hcell := (hc k hlt).2
      have HT := Lib.hid (hasB_take_succ (n := n) hlt)
      clear ha hc
      go_wp2
      · have he : (nth zs k == n) = true := by assumption
        go_ret
        exact ⟨by rw [hasB_of_take (k := k + 1) (by rw [HT.out, he]; simp)]; rfl, rfl⟩
      · have he : (nth zs k == n) = false := by assumption
        go_round
        case rel => exact ⟨k + 1, by omega, by go_num, by rw [HT.out, HN.out, he]; rfl⟩
        case measure => simp [intOf]; omega
    · clear hc
      go_wp2
      go_ret
      exact ⟨by rw [← hasB_take_all (k := k) (by omega), HN.out]; rfl, rfl⟩

/-- frankingref25.SameInts -/
theorem same_any (B : Nat) (w : World) (v v' : Value) (xs ys : List Int) (hv : IsInts B w v xs) (hv' : IsInts B w v' ys) :
    Calls Try.prog 31 #[v, v'] w fun e w' => e = .returned (.bool (sameB xs ys)) ∧ Drew w w' := by
  obtain ⟨b, off, cap, ⟨a, rfl, hcap, hmax, ha⟩, hlen, hz, hc⟩ := hv
  obtain ⟨b', off', cap', ⟨a', rfl, hcap', hmax', ha'⟩, hlen', hz', hc'⟩ := hv'
  by_cases hl : xs.length = ys.length
  · have HL := Lib.hid hl
    have hne2 : ((xs.length : Int) != (ys.length : Int)) = false := by rw [hl]; simp
    clear hl
    go_enter Try.func31, Try.ntmps31
    go_wp2
    go_loopw [5] (fun i wr => ∃ k : Nat, k ≤ xs.length ∧ i = .int .i64 k ∧ sameB (xs.take k) (ys.take k) = true ∧ Drew w wr) (fun i _ => xs.length - (intOf i).toNat)
    case atStart => exact ⟨0, by omega, rfl, rfl, Drew.refl _⟩
    case round =>
      obtain ⟨k, hk, rfl, hno, hd⟩ := hrel
      have HN := Lib.hid hno
      have HD := Lib.hid hd
      clear hno hd
      by_cases hlt : k < xs.length
      · have hlt' : k < ys.length := by rw [← HL.out]; exact hlt
        obtain rfl : a = some ⟨b, off, none⟩ := by rcases ha with ha | ha; exact ha; omega
        obtain rfl : a' = some ⟨b', off', none⟩ := by rcases ha' with ha | ha; exact ha; omega
        have hcell := (HD.out.cell _).trans (hc k hlt).2
        have hcell' := (HD.out.cell _).trans (hc' k hlt').2
        clear ha ha' hc hc'
        go_wp2
        go_quiet (fail)
        by_cases he : nth xs k = nth ys k
        · have HT := Lib.hid (sameB_succ HN.out hlt hlt' he)
          have he' : (nth xs k != nth ys k) = false := by simpa using he
          clear he
          go_wp2
          go_roundw
          case rel => exact ⟨k + 1, by omega, by go_num, HT.out, HD.out.drewN _⟩
          case measure => simp [intOf]; omega
        · have HT := Lib.hid (sameB_not hlt hlt' he)
          have he' : (nth xs k != nth ys k) = true := by simpa using he
          clear he
          go_wp2
          go_ret
          exact ⟨by rw [HT.out]; rfl, HD.out.drewN _⟩
      · have HT := Lib.hid (sameB_all HN.out (by omega) (by have := HL.out; omega))
        clear hc hc'
        go_wp2
        go_ret
        exact ⟨by rw [HT.out]; rfl, HD.out⟩
  · have HT := Lib.hid (sameB_len hl)
    have hne2 : ((xs.length : Int) != (ys.length : Int)) = true := by simp; omega
    clear hl hc hc'
    go_enter Try.func31, Try.ntmps31
    go_wp2
    go_ret
    exact ⟨by rw [HT.out]; rfl, Drew.refl _⟩

theorem IsInts.take {B : Nat} {w : World} {cap k : Nat} {a : Option Addr} {zs : List Int} (h : IsInts B w (.slice a zs.length cap) zs) (hk : k ≤ zs.length) :
    IsInts B w (.slice a k cap) (zs.take k) := by
  obtain ⟨b, off, cap', ⟨a', he, hcap, hmax, ha⟩, hlen, hz, hc⟩ := h
  obtain ⟨rfl, _, rfl⟩ : a = a' ∧ True ∧ cap = cap' := by cases he; exact ⟨rfl, trivial, rfl⟩
  have hl : (zs.take k).length = k := by simp; omega
  refine ⟨b, off, cap, ⟨a, by rw [hl], by omega, hmax, ?_⟩, by omega, fun x hx => hz x (List.mem_of_mem_take hx), fun j hj => ?_⟩
  · rcases ha with ha | ha
    · exact Or.inl ha
    · exact Or.inr (by omega)
  · have := hc j (by omega)
    unfold nth at *
    rw [List.getD_eq_getElem?_getD, List.getElem?_take, if_pos (by omega), ← List.getD_eq_getElem?_getD]
    exact this

/-- frankingref25.Different -/
theorem different_any (B : Nat) (w : World) (v : Value) (zs : List Int) (hv : IsInts B w v zs) :
    Calls Try.prog 89 #[v] w fun e w' => e = .returned (.bool (diffB zs)) ∧ Drew w w' := by
  have HV := Lib.hid hv
  obtain ⟨b, off, cap, ⟨a, rfl, hcap, hmax, ha⟩, hlen, hz, hc⟩ := hv
  go_enter Try.func89, Try.ntmps89
  go_wp2
  go_loopw [3] (fun i wr => ∃ k : Nat, k ≤ zs.length ∧ i = .int .i64 k ∧ diffB (zs.take k) = true ∧ Drew w wr) (fun i _ => zs.length - (intOf i).toNat)
  case atStart => exact ⟨0, by omega, rfl, rfl, Drew.refl _⟩
  case round =>
    obtain ⟨k, hk, rfl, hno, hd⟩ := hrel
    have HN := Lib.hid hno
    have HD := Lib.hid hd
    clear hno hd
    by_cases hlt : k < zs.length
    · obtain rfl : a = some ⟨b, off, none⟩ := by rcases ha with ha | ha; exact ha; omega
      have hcell := (HD.out.cell _).trans (hc k hlt).2
      have HS := Lib.hid (diffB_succ hlt)
      have hcall : ∀ m, Calls Try.prog 23 #[.slice (some ⟨b, off, none⟩) k cap, .int .i64 (nth zs k)] (wr.drewN m) fun e w' => e = .returned (.bool (hasB (zs.take k) (nth zs k))) ∧ w' = wr.drewN m :=
        fun m => has_any B _ _ (zs.take k) (nth zs k) ((HV.out.take hk).drew (HD.out.drewN _))
      have HC := Lib.hid hcall
      have hkcap : k ≤ cap := by omega
      clear ha hc hcall
      go_wp2
      go_quiet ((go_at_call 23; exact Calls.quiet_of_same (HC.out _)))
      cases he : hasB (zs.take k) (nth zs k)
      · have HT : Hid (diffB (zs.take (k + 1)) = true) := by
          refine Lib.hid ?_
          rw [HS.out, HN.out, he]; rfl
        clear HS
        go_wp2
        go_roundw
        case rel => exact ⟨k + 1, by omega, by go_num, HT.out, HD.out.drewN _⟩
        case measure => simp [intOf]; omega
      · have HT : Hid (diffB zs = false) := by
          refine Lib.hid (diffB_take_false (k := k + 1) ?_)
          rw [HS.out, HN.out, he]; rfl
        clear HS
        go_wp2
        go_ret
        exact ⟨by rw [HT.out]; rfl, HD.out.drewN _⟩
    · have HT : Hid (diffB zs = true) := by
        refine Lib.hid ?_
        rw [← diffB_take_all (k := k) (by omega)]; exact HN.out
      clear hc
      go_wp2
      go_ret
      exact ⟨by rw [HT.out]; rfl, HD.out⟩

end Go.Proofs.Ytndcbnnbgedgcaa
