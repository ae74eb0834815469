/-
  Layer 3: the walk of spelled.
-/
import Derived.Test.YtagjiljhbdjlfaaDoorLx21
set_option linter.unusedVariables false
set_option linter.unusedSimpArgs false
namespace Go.Proofs.YtagjiljhbdjlfaaDoor
open Go.RowKit

theorem dec_last {m : Nat} (h : m < 10) (l : List UInt8) : Go.Lib.decDigits m ++ l = digB (m % 10) :: l := by
  rw [Go.Lib.decDigits, dif_pos h, Nat.mod_eq_of_lt h]
  rfl
theorem dec_more {m : Nat} (h : 10 ≤ m) (l : List UInt8) : Go.Lib.decDigits m ++ l = Go.Lib.decDigits (m / 10) ++ (digB (m % 10) :: l) := by
  rw [Go.Lib.decDigits, dif_neg (by omega)]
  simp [digB]

set_option maxHeartbeats 2000000 in
set_option maxRecDepth 100000 in
theorem spelled_any (t : Tok) (w : World) (ht : okT t) (hn : t.kind = 2 → 0 ≤ t.n ∧ t.n ≤ 1099511627776) : Calls Tryd.prog 23 #[tokV t] w fun e w' => e = .returned (strV (txt t)) ∧ Below w.heap.size w w' := by
  obtain ⟨k, x, n, p⟩ := t
  obtain ⟨⟨k1, k2⟩, hx, ⟨n1, n2⟩, ⟨p1, p2⟩⟩ := ht
  simp only at k1 k2 hx n1 n2 p1 p2
  have hn : k = 2 → 0 ≤ n ∧ n ≤ 1099511627776 := hn
  have HBX := Lib.hid (box_below' w (.cells #[.int .i64 k, strV x, .int .i64 n, .int .i64 p] 35))
  by_cases hk2 : k = 2
  · subst hk2
    obtain ⟨m1, m2⟩ := hn rfl
    obtain ⟨N, hN⟩ : ∃ N : Nat, n = (N : Int) := ⟨n.toNat, by omega⟩
    subst hN
    have hN2 : N ≤ 1099511627776 := by omega
    have HTX : Hid (txt ⟨2, x, (N : Int), p⟩ = Go.Lib.decDigits N) := Lib.hid (by
      show (if (2 : Int) == 2 then Go.Lib.itoa (N : Int) else x) = _
      rw [if_pos (by rfl), itoa_nat (by omega)]
      rfl)
    have HDL := Lib.hid (dec_len 12 N (by omega))
    clear hn m1 m2 n1 n2
    go_enter Tryd.func23, Tryd.ntmps23
    go_wp2
    go_loopw [3, 4] (fun sv nv wr => ∃ (m : Nat) (l : List UInt8), nv = .int .i64 m ∧ sv = strV l ∧ Go.Lib.decDigits N = Go.Lib.decDigits m ++ l ∧ m ≤ N ∧ Below w.heap.size w wr) (fun sv nv _ => (intOf nv).toNat)
    case atStart => exact ⟨N, [], rfl, rfl, by simp, Nat.le_refl _, HBX.out⟩
    case round =>
      obtain ⟨m, l, rfl, hse, hdt, hm, hbr⟩ := hrel
      have HDT := Lib.hid hdt
      have HBR := Lib.hid hbr
      have hzr := hbr.size
      obtain ⟨sx, hsx⟩ : ∃ sx : ByteArray, (⟨l.toArray⟩ : ByteArray) = sx := ⟨_, rfl⟩
      have HSX := Lib.hid hsx
      have hxs : sx.size ≤ 13 := by
        rw [← hsx, len_mk]
        have h1 := congrArg List.length hdt
        rw [List.length_append] at h1
        have := HDL.out
        omega
      rw [show strV l = .string sx from by rw [← hsx]] at hse
      subst hse
      clear hsx hdt hbr
      have hm2 : (m : Int) ≤ 1099511627776 := by omega
      have h1s : (⟨#[digB (m % 10)]⟩ : ByteArray).size = 1 := rfl
      have hrem : (m : Int).tmod 10 = ((m % 10 : Nat) : Int) := by rw [Int.tmod_eq_emod_of_nonneg (by omega)]; omega
      have hr10 : m % 10 < 10 := by omega
      have HCAT : Hid (strV (digB (m % 10) :: l) = .string ((⟨#[digB (m % 10)]⟩ : ByteArray) ++ sx)) := Lib.hid (by
        have : digB (m % 10) :: l = [digB (m % 10)] ++ l := rfl
        rw [this, strV_app, HSX.out])
      by_cases h10 : 10 ≤ m
      · have HD2 : Hid (Go.Lib.decDigits N = Go.Lib.decDigits (m / 10) ++ (digB (m % 10) :: l)) := Lib.hid (by rw [HDT.out, dec_more h10])
        have hq : (m : Int).tdiv 10 = ((m / 10 : Nat) : Int) := by rw [Int.tdiv_eq_ediv_of_nonneg (by omega)]; omega
        have h10' : (10 : Int) ≤ (m : Int) := by omega
        go_wp2_with (refine wpList_byte_str rfl (.tmp 18) rfl (u := digB (m % 10)) rfl (z := 48 + (m : Int) % 10) (by rw [digB_val hr10]; omega) (World.cell?_alloc_at _ _ _ _ rfl) ?_)
        go_roundw
        case rel => exact ⟨m / 10, _, by go_num, HCAT.out.symm, HD2.out, by omega, HBR.out.alloc hzr _⟩
        case measure => simp [intOf]; omega
      · have HE : Hid (Go.Lib.decDigits N = digB (m % 10) :: l) := Lib.hid (by rw [HDT.out, dec_last (by omega)])
        have h10' : (m : Int) < 10 := by omega
        have HBE := Lib.hid (HBR.out.alloc hzr (.cells #[.int .u8 (48 + (m : Int) % 10)] 5))
        go_wp2_with (refine wpList_byte_str rfl (.tmp 18) rfl (u := digB (m % 10)) rfl (z := 48 + (m : Int) % 10) (by rw [digB_val hr10]; omega) (World.cell?_alloc_at _ _ _ _ rfl) ?_)
        go_ret
        exact ⟨by rw [HTX.out, HE.out, HCAT.out]; rfl, HBR.out.alloc hzr _⟩
  · have hk2' : (k != 2) = true := by simpa using hk2
    have hk3 : (k == 2) = false := by simpa using hk2
    have HTX : Hid (txt ⟨k, x, n, p⟩ = x) := Lib.hid (by unfold txt; simp only; rw [hk3]; rfl)
    clear hk2 hk3 hn
    go_enter Tryd.func23, Tryd.ntmps23
    go_wp2
    go_ret
    exact ⟨by rw [HTX.out]; rfl, HBX.out⟩
end Go.Proofs.YtagjiljhbdjlfaaDoor
