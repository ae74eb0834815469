/-
  Layer 3: the walk of frankingref03.Text.
-/
import Derived.Test.YtagjiljhbdjlfaaDoorLx21
import Derived.Lib.SmallJoins
set_option linter.unusedVariables false
set_option linter.unusedSimpArgs false
namespace Go.Proofs.YtagjiljhbdjlfaaDoor
open Go.RowKit

theorem joinW_snoc : ∀ (l : List (List UInt8)) (x : List UInt8), l ≠ [] → joinW (l ++ [x]) = joinW l ++ 32 :: x
  | [], x, h => absurd rfl h
  | [y], x, _ => by simp [joinW]
  | y :: z :: r, x, _ => by
    have ih := joinW_snoc (z :: r) x (by simp)
    simp only [List.cons_append, joinW] at ih ⊢
    rw [ih]
    simp
def headW (ts : List Tok) (k : Nat) : List UInt8 := joinW ((ts.take k).map txt)
theorem headW_succ {ts : List Tok} {k : Nat} (h : k < ts.length) (h0 : 0 < k) : headW ts (k + 1) = headW ts k ++ [32] ++ txt (tokAt ts k) := by
  unfold headW
  rw [List.take_succ_eq_append_getElem h, List.map_append, tokAt_get h]
  simp only [List.map_cons, List.map_nil]
  rw [joinW_snoc _ _ (by intro e; have h2 := congrArg List.length e; rw [List.length_map, List.length_take] at h2; simp only [List.length_nil] at h2; omega)]
  simp
theorem headW_one {ts : List Tok} (h : 0 < ts.length) : headW ts 1 = txt (tokAt ts 0) := by
  unfold headW
  rw [show (1 : Nat) = 0 + 1 from rfl, List.take_succ_eq_append_getElem h, tokAt_get h]
  simp [joinW]
theorem headW_len {ts : List Tok} {k : Nat} (hv : ∀ j, j < k → validB (tokAt ts j) = true) (hk : k ≤ ts.length) (hn : ts.length ≤ 100000) (hx : ∀ t ∈ ts, t.text.length ≤ 100000) : (headW ts k).length ≤ 20000000000 := by
  have := joinW_len (m := 100000) ((ts.take k).map txt) (fun x hx2 => by
    obtain ⟨t, ht, rfl⟩ := List.mem_map.1 hx2
    obtain ⟨j, hj, rfl⟩ := List.getElem_of_mem ht
    simp only [List.length_take] at hj
    have h1 := hv j (by omega)
    rw [tokAt_get (by omega)] at h1
    rw [List.getElem_take]
    exact txt_len h1 (hx _ (List.getElem_mem _)))
  rw [List.length_map, List.length_take] at this
  unfold headW
  have h2 : min k ts.length * (100000 + 1) ≤ 100000 * (100000 + 1) := Nat.mul_le_mul_right _ (by omega)
  omega
set_option maxHeartbeats 4000000 in
set_option maxRecDepth 100000 in
theorem rtext_any (B : Nat) (w : World) (v : Value) (ts : List Tok) (hB : B ≤ w.heap.size) (hv : IsToks B w v ts) (hn : ts.length ≤ 100000) (hx : ∀ t ∈ ts, t.text.length ≤ 100000) :
    Calls Tryd.prog 17 #[v] w fun e w' => e = .returned (.tuple #[strV (textL ts), .int .i64 (textE ts)]) ∧ Below w.heap.size w w' := by
  obtain ⟨a, c, rfl, hc1, hc2, hc3⟩ := hv.form
  have HV := Lib.hid hv
  have HX := Lib.hid hx
  clear hv hx
  go_enter Tryd.func17, Tryd.ntmps17
  go_wp2
  go_loopw [4, 5] (fun x i wr => ∃ k : Nat, k ≤ ts.length ∧ i = .int .i64 k ∧ x = strV (headW ts k) ∧ (∀ j, j < k → validB (tokAt ts j) = true) ∧ Below w.heap.size w wr) (fun x i _ => ts.length - (intOf i).toNat)
  case atStart => exact ⟨0, by omega, rfl, rfl, fun j hj => by omega, Below.refl _ _⟩
  case round =>
    obtain ⟨k, hk, rfl, hxe, hall, hbr⟩ := hrel
    obtain ⟨sx, hsx⟩ : ∃ sx : ByteArray, (⟨(headW ts k).toArray⟩ : ByteArray) = sx := ⟨_, rfl⟩
    have HSX := Lib.hid hsx
    have hse : strV (headW ts k) = .string sx := by rw [← hsx]
    have HXE := Lib.hid hse
    rw [hse] at hxe
    subst hxe
    clear hsx hse
    have HA := Lib.hid hall
    have HBR := Lib.hid hbr
    clear hall hbr
    have hzr := HBR.out.size
    by_cases hlt : k < ts.length
    · obtain ⟨b, off, rfl, bb, g0, g1, g2, g3⟩ := (HV.out.below HBR.out hB).cells hlt
      have HOK := Lib.hid (HV.out.ok hlt)
      go_wp2_with fail
      refine (rvalid_any (tokAt ts k) wr HOK.out).mono ?_
      rintro e w7 ⟨rfl, hb⟩
      have HB7 : Hid (Below w.heap.size w w7) := Lib.hid (HBR.out.trans (hb.mono (by omega)))
      have hz7 := HB7.out.size
      clear hb g0 g1 g2 g3
      obtain ⟨b', off', he, bb', g0, g1, g2, g3⟩ := (HV.out.below HB7.out hB).cells hlt
      obtain ⟨rfl, rfl⟩ : b = b' ∧ off = off' := by injection he with he; injection he with h1 h2; exact ⟨h1, h2⟩
      clear he bb'
      cases hvb : validB (tokAt ts k) with
      | false =>
        have HT : Hid (textL ts = [] ∧ textE ts = 30) := Lib.hid (by unfold textL textE; rw [not_all hlt hvb]; exact ⟨rfl, rfl⟩)
        clear hvb
        go_wp2
        go_ret2
        exact ⟨by rw [HT.out.1, HT.out.2]; rfl, HB7.out⟩
      | true =>
        have HVB := Lib.hid hvb
        have HA2 : Hid (∀ j, j < k + 1 → validB (tokAt ts j) = true) := Lib.hid (fun j hj => by
          by_cases h : j < k
          · exact HA.out j h
          · obtain rfl : j = k := by omega
            exact HVB.out)
        clear hvb
        have hxs : sx.size ≤ 20000000000 := by rw [← HSX.out, len_mk]; exact headW_len HA.out hk hn HX.out
        obtain ⟨tx, htx⟩ : ∃ tx : ByteArray, (⟨(txt (tokAt ts k)).toArray⟩ : ByteArray) = tx := ⟨_, rfl⟩
        have hts : tx.size ≤ 100000 := by rw [← htx, len_mk]; exact txt_len HVB.out (HX.out _ (by rw [tokAt_get hlt]; exact List.getElem_mem _))
        have HTX := Lib.hid htx
        clear htx
        have h32 : (⟨#[32]⟩ : ByteArray).size = 1 := rfl
        have HNEXT : Hid (if k = 0 then strV (headW ts (k + 1)) = .string (sx ++ tx) else strV (headW ts (k + 1)) = .string (sx ++ (⟨#[32]⟩ : ByteArray) ++ tx)) := Lib.hid (by
          by_cases h0 : k = 0
          · subst h0
            rw [if_pos rfl, headW_one hlt, ← HTX.out, ← HSX.out]
            show strV (txt (tokAt ts 0)) = .string ((⟨([] : List UInt8).toArray⟩ : ByteArray) ++ ⟨(txt (tokAt ts 0)).toArray⟩)
            rw [← strV_app]
            rfl
          · rw [if_neg h0, headW_succ hlt (by omega), strV_app, ← HTX.out, ← HSX.out]
            have := strV_app (headW ts k) [32]
            unfold strV at this
            injection this with this
            rw [this])
        by_cases hk2 : (tokAt ts k).kind = 2
        · have hk2' : ((tokAt ts k).kind == 2) = true := by simpa using hk2
          obtain ⟨v1, v2, v3⟩ := valid_num HVB.out hk2
          obtain ⟨N, hN⟩ : ∃ N : Nat, (tokAt ts k).n = (N : Int) := ⟨(tokAt ts k).n.toNat, by omega⟩
          have HDX : Hid (strV (Go.Lib.decDigits N) = .string tx) := Lib.hid (by
            rw [← HTX.out]
            unfold strV txt
            rw [hk2', hN, if_pos rfl, itoa_nat (by omega)]
            rfl)
          rw [hN] at g2
          have hN2 : N ≤ 1099511627776 := by omega
          clear hk2 v1 v2 v3 hN g1 g3
          by_cases h0 : k = 0
          · have HNX : Hid (strV (headW ts (k + 1)) = .string (sx ++ tx)) := Lib.hid (by have := HNEXT.out; rw [if_pos h0] at this; exact this)
            have h0' : (k : Int) ≤ 0 := by omega
            clear h0
            go_wp2_with fail
            refine (decimal_any N w7 hN2).mono ?_
            rintro e w8 ⟨rfl, hb⟩
            have HB8 : Hid (Below w.heap.size w w8) := Lib.hid (HB7.out.trans (hb.mono (by omega)))
            rw [HDX.out]
            clear hb g0 g2
            go_wp2
            go_roundw
            case rel => exact ⟨k + 1, by omega, by go_num, HNX.out.symm, HA2.out, HB8.out⟩
            case measure => simp [intOf]; omega
          · have HNX : Hid (strV (headW ts (k + 1)) = .string (sx ++ (⟨#[32]⟩ : ByteArray) ++ tx)) := Lib.hid (by have := HNEXT.out; rw [if_neg h0] at this; exact this)
            have h0' : (0 : Int) < (k : Int) := by omega
            go_wp2_with fail
            refine (decimal_any N w7 hN2).mono ?_
            rintro e w8 ⟨rfl, hb⟩
            have HB8 : Hid (Below w.heap.size w w8) := Lib.hid (HB7.out.trans (hb.mono (by omega)))
            rw [HDX.out]
            clear hb g0 g2
            go_wp2
            go_roundw
            case rel => exact ⟨k + 1, by omega, by go_num, HNX.out.symm, HA2.out, HB8.out⟩
            case measure => simp [intOf]; omega
        · have hk2' : ((tokAt ts k).kind == 2) = false := by simpa using hk2
          have HDX : Hid (strV (tokAt ts k).text = .string tx) := Lib.hid (by
            rw [← HTX.out]
            unfold strV txt
            rw [hk2']
            rfl)
          rw [HDX.out] at g1
          clear hk2 g2 g3
          by_cases h0 : k = 0
          · have HNX : Hid (strV (headW ts (k + 1)) = .string (sx ++ tx)) := Lib.hid (by have := HNEXT.out; rw [if_pos h0] at this; exact this)
            have h0' : (k : Int) ≤ 0 := by omega
            clear h0
            go_wp2
            go_roundw
            case rel => exact ⟨k + 1, by omega, by go_num, HNX.out.symm, HA2.out, HB7.out⟩
            case measure => simp [intOf]; omega
          · have HNX : Hid (strV (headW ts (k + 1)) = .string (sx ++ (⟨#[32]⟩ : ByteArray) ++ tx)) := Lib.hid (by have := HNEXT.out; rw [if_neg h0] at this; exact this)
            have h0' : (0 : Int) < (k : Int) := by omega
            go_wp2
            go_roundw
            case rel => exact ⟨k + 1, by omega, by go_num, HNX.out.symm, HA2.out, HB7.out⟩
            case measure => simp [intOf]; omega
    · obtain rfl : k = ts.length := by omega
      have HALL := Lib.hid (all_valid HA.out)
      have HT : Hid (textL ts = headW ts ts.length ∧ textE ts = 0) := Lib.hid (by unfold textL textE headW; rw [HALL.out, List.take_length]; exact ⟨rfl, rfl⟩)
      go_wp2
      go_ret2
      exact ⟨by rw [HT.out.1, HT.out.2, HXE.out]; rfl, HBR.out⟩
end Go.Proofs.YtagjiljhbdjlfaaDoor
