/-
  Layer 3: frankingref03: Valid, Decimal.
-/
import Derived.Test.YtagjiljhbdjlfaaDoorLx18
import Derived.Test.YtagjiljhbdjlfaaDoorLx15
import Derived.Laws.IdiomStrings
import Derived.Lib.SmallJoins
set_option linter.unusedVariables false
set_option linter.unusedSimpArgs false
namespace Go.Proofs.YtagjiljhbdjlfaaDoor
open Go.RowKit

set_option maxHeartbeats 1000000 in
set_option maxRecDepth 100000 in
theorem rvalid_any (t : Tok) (w : World) (ht : okT t) : Calls Tryd.prog 39 #[tokV t] w fun e w' => e = .returned (.bool (validB t)) ∧ Below w.heap.size w w' := by
  obtain ⟨k, x, n, p⟩ := t
  obtain ⟨⟨k1, k2⟩, hx, ⟨n1, n2⟩, ⟨p1, p2⟩⟩ := ht
  simp only at k1 k2 hx n1 n2 p1 p2
  have hsz := len_mk x
  have HSZ := Lib.hid hsz
  have HBX := Lib.hid (box_below' w (.cells #[.int .i64 k, strV x, .int .i64 n, .int .i64 p] 35))
  have hlt : x.length ≤ 9223372036854775806 := by omega
  clear hsz
  unfold strV at *
  by_cases hk1 : k = 1
  · subst hk1
    cases hb : nameB x
    · have HV : Hid (validB ⟨1, x, n, p⟩ = false) := Lib.hid (by simp [validB, hb])
      go_enter Tryd.func39, Tryd.ntmps39
      go_wp2_with (go_at_call 21; refine (rname_any _ _ ?_).mono ?_; (rw [HSZ.out]; exact hlt); rintro e w' ⟨rfl, rfl⟩)
      go_ret
      exact ⟨ret_bool' HV.out, HBX.out⟩
    · by_cases hn : n = 0
      · subst hn
        have HV : Hid (validB ⟨1, x, 0, p⟩ = true) := Lib.hid (by simp [validB, hb])
        go_enter Tryd.func39, Tryd.ntmps39
        go_wp2_with (go_at_call 21; refine (rname_any _ _ ?_).mono ?_; (rw [HSZ.out]; exact hlt); rintro e w' ⟨rfl, rfl⟩)
        go_ret
        exact ⟨ret_bool' HV.out, HBX.out⟩
      · have hn' : (n == 0) = false := by simpa using hn
        have HV : Hid (validB ⟨1, x, n, p⟩ = false) := Lib.hid (by simp [validB, hb, hn])
        clear hn
        go_enter Tryd.func39, Tryd.ntmps39
        go_wp2_with (go_at_call 21; refine (rname_any _ _ ?_).mono ?_; (rw [HSZ.out]; exact hlt); rintro e w' ⟨rfl, rfl⟩)
        go_ret
        exact ⟨ret_bool' HV.out, HBX.out⟩
  · have hk1' : (k == 1) = false := by simpa using hk1
    by_cases hk2 : k = 2
    · subst hk2
      clear hk1 hk1'
      by_cases hx0 : x = []
      · subst hx0
        by_cases hn0 : 0 ≤ n
        · by_cases hn1 : n ≤ 1099511627776
          · have HV : Hid (validB ⟨2, [], n, p⟩ = true) := Lib.hid (by simp [validB, hn0, hn1])
            go_enter Tryd.func39, Tryd.ntmps39
            go_wp2
            go_ret
            exact ⟨ret_bool' HV.out, HBX.out⟩
          · have HV : Hid (validB ⟨2, [], n, p⟩ = false) := Lib.hid (by simp [validB]; omega)
            go_enter Tryd.func39, Tryd.ntmps39
            go_wp2
            go_ret
            exact ⟨ret_bool' HV.out, HBX.out⟩
        · have HV : Hid (validB ⟨2, [], n, p⟩ = false) := Lib.hid (by simp [validB]; omega)
          go_enter Tryd.func39, Tryd.ntmps39
          go_wp2
          go_ret
          exact ⟨ret_bool' HV.out, HBX.out⟩
      · have HV : Hid (validB ⟨2, x, n, p⟩ = false) := Lib.hid (by simp [validB, hx0])
        obtain ⟨hE1, hE2⟩ := str_ne (s := ⟨x.toArray⟩) (by rw [HSZ.out]; exact List.length_pos_iff.2 hx0)
        go_enter Tryd.func39, Tryd.ntmps39
        go_wp2
        go_ret
        exact ⟨ret_bool' HV.out, HBX.out⟩
    · have hk2' : (k == 2) = false := by simpa using hk2
      by_cases hk3 : k = 3
      · subst hk3
        clear hk1 hk2 hk1' hk2'
        by_cases hl : x.length = 1
        · obtain ⟨c, rfl⟩ := List.length_eq_one_iff.1 hl
          clear hl
          cases h5 : isSgn c
          · have HV : Hid (validB ⟨3, [c], n, p⟩ = false) := Lib.hid (by simp [validB, h5])
            have h5' := h5
            go_enter Tryd.func39, Tryd.ntmps39
            go_wp2_with (go_at_call 35; refine (rsign_any c _).mono ?_; rintro e w' ⟨rfl, rfl⟩)
            go_ret
            exact ⟨ret_bool' HV.out, HBX.out⟩
          · by_cases hn : n = 0
            · subst hn
              have HV : Hid (validB ⟨3, [c], 0, p⟩ = true) := Lib.hid (by simp [validB, h5])
              go_enter Tryd.func39, Tryd.ntmps39
              go_wp2_with (go_at_call 35; refine (rsign_any c _).mono ?_; rintro e w' ⟨rfl, rfl⟩)
              go_ret
              exact ⟨ret_bool' HV.out, HBX.out⟩
            · have HV : Hid (validB ⟨3, [c], n, p⟩ = false) := Lib.hid (by simp [validB, hn])
              have hn' : (n == 0) = false := by simpa using hn
              clear hn
              go_enter Tryd.func39, Tryd.ntmps39
              go_wp2_with (go_at_call 35; refine (rsign_any c _).mono ?_; rintro e w' ⟨rfl, rfl⟩)
              go_ret
              exact ⟨ret_bool' HV.out, HBX.out⟩
        · have HV : Hid (validB ⟨3, x, n, p⟩ = false) := Lib.hid (by
            match x, hl with
            | [], _ => rfl
            | a :: b :: r, _ => rfl)
          have hl1 : ((x.length : Int) == 1) = false := by simp; omega
          have hl2 : (((⟨x.toArray⟩ : ByteArray).size : Int) == 1) = false := by rw [HSZ.out]; exact hl1
          clear hl
          go_enter Tryd.func39, Tryd.ntmps39
          go_wp2
          go_ret
          exact ⟨ret_bool' HV.out, HBX.out⟩
      · have HV : Hid (validB ⟨k, x, n, p⟩ = false) := Lib.hid (by simp [validB, hk1, hk2, hk3])
        have hk3' : (k == 3) = false := by simpa using hk3
        clear hk1 hk2 hk3
        go_enter Tryd.func39, Tryd.ntmps39
        go_wp2
        go_ret
        exact ⟨ret_bool' HV.out, HBX.out⟩

/-- string([]byte{d}) -/
theorem wpList_byte_str {ops : Array Oper} {rest : List Oper} {o : Oper} {a : Act} {w : World} {Q : Exit → Act → World → Prop} (hgd : o.guard = none) (x : Operand) (hop : o.op = Op.convert 39 9 x)
    {ad : Addr} {c : Nat} {u : UInt8} (hx : a.eval x = .slice (some ad) 1 c) {z : Int} (hz : z = (u.toNat : Int)) (hc : w.cell? ad = some (.int .u8 z))
    (h : wpList Tryd.prog ops Q rest (a.put o.dst (strV [u])) w) : wpList Tryd.prog ops Q (o :: rest) a w := by
  subst hz
  refine wpList_plain hgd fun K hK => ?_
  have hadd : ad.add 0 = ad := by unfold Addr.add; split <;> simp_all
  have hr := run_convert_bytes_back (P := Tryd.prog) w 39 9 5 ad c [u] Tryd.underlying39 Tryd.underlying5 Tryd.underlying9 (fun j hj => by
    obtain rfl : j = 0 := by simpa using hj
    rw [hadd, hc]
    rfl)
  unfold Oper.wp
  simp only [execOp, hop, hx]
  simp only [List.length_cons, List.length_nil, Nat.zero_add] at hr
  simp [hr, Result.andThen]
  exact hK _ _ h

theorem strV_app (a b : List UInt8) : strV (a ++ b) = .string ((⟨a.toArray⟩ : ByteArray) ++ (⟨b.toArray⟩ : ByteArray)) := by
  have : (⟨(a ++ b).toArray⟩ : ByteArray) = (⟨a.toArray⟩ : ByteArray) ++ (⟨b.toArray⟩ : ByteArray) := by
    apply ByteArray.ext
    rw [ByteArray.data_append]
    simp
  unfold strV
  rw [this]

def digB (d : Nat) : UInt8 := UInt8.ofNat (48 + d)
theorem digB_val {d : Nat} (h : d < 10) : (digB d).toNat = 48 + d := (dig_of h).2
def decTail (N m : Nat) (l : List UInt8) : Prop := if m < 10 then Go.Lib.decDigits N = l else Go.Lib.decDigits N = Go.Lib.decDigits (m / 10) ++ l
theorem decTail_start (N : Nat) : decTail N N [digB (N % 10)] := by
  unfold decTail digB
  rw [Go.Lib.decDigits]
  by_cases h : N < 10
  · rw [if_pos h, dif_pos h, Nat.mod_eq_of_lt h]
  · rw [if_neg h, dif_neg h]
theorem decTail_step {N m : Nat} {l : List UInt8} (h : decTail N m l) (hm : 10 ≤ m) : decTail N (m / 10) (digB (m / 10 % 10) :: l) := by
  unfold decTail digB at *
  rw [if_neg (by omega)] at h
  by_cases h2 : m / 10 < 10
  · have e : Go.Lib.decDigits (m / 10) = [UInt8.ofNat (48 + m / 10)] := by rw [Go.Lib.decDigits, dif_pos h2]
    rw [e] at h
    rw [if_pos h2, h, Nat.mod_eq_of_lt h2]
    rfl
  · have e : Go.Lib.decDigits (m / 10) = Go.Lib.decDigits (m / 10 / 10) ++ [UInt8.ofNat (48 + m / 10 % 10)] := by rw [Go.Lib.decDigits, dif_neg h2]
    rw [e] at h
    rw [if_neg h2, h]
    simp
theorem decTail_len {N m : Nat} {l : List UInt8} (h : decTail N m l) : l.length ≤ (Go.Lib.decDigits N).length := by
  unfold decTail at h
  split at h <;> rw [h] <;> simp

set_option maxHeartbeats 2000000 in
set_option maxRecDepth 100000 in
theorem decimal_any (N : Nat) (w : World) (hN : N ≤ 1099511627776) : Calls Tryd.prog 40 #[.int .i64 (N : Int)] w fun e w' => e = .returned (strV (Go.Lib.decDigits N)) ∧ Below w.heap.size w w' := by
  have hrem : (N : Int).tmod 10 = ((N % 10 : Nat) : Int) := by rw [Int.tmod_eq_emod_of_nonneg (by omega)]; omega
  have hr10 : N % 10 < 10 := by omega
  have HDL := Lib.hid (dec_len 12 N (by omega))
  go_enter Tryd.func40, Tryd.ntmps40
  go_wp2_with (refine wpList_byte_str rfl (.tmp 8) rfl (u := digB (N % 10)) rfl (z := 48 + (N : Int) % 10) (by rw [digB_val hr10]; omega) (World.cell?_alloc_at _ _ _ _ rfl) ?_)
  go_loopw [0, 3] (fun nv sv wr => ∃ (m : Nat) (l : List UInt8), nv = .int .i64 m ∧ sv = strV l ∧ decTail N m l ∧ m ≤ N ∧ Below w.heap.size w wr) (fun nv sv _ => (intOf nv).toNat)
  case atStart => exact ⟨N, _, rfl, rfl, decTail_start N, Nat.le_refl _, (Below.refl _ _).alloc (Nat.le_refl _) _⟩
  case round =>
    obtain ⟨m, l, rfl, hse, hdt, hm, hbr⟩ := hrel
    have HDT := Lib.hid hdt
    have HBR := Lib.hid hbr
    have hzr := hbr.size
    obtain ⟨sx, hsx⟩ : ∃ sx : ByteArray, (⟨l.toArray⟩ : ByteArray) = sx := ⟨_, rfl⟩
    have HSX := Lib.hid hsx
    have hxs : sx.size ≤ 13 := by rw [← hsx, len_mk]; exact Nat.le_trans (decTail_len hdt) HDL.out
    rw [show strV l = .string sx from by rw [← hsx]] at hse
    subst hse
    clear hsx hdt hbr
    by_cases h10 : 10 ≤ m
    · have HD2 := Lib.hid (decTail_step HDT.out h10)
      have hq : (m : Int).tdiv 10 = ((m / 10 : Nat) : Int) := by rw [Int.tdiv_eq_ediv_of_nonneg (by omega)]; omega
      have h10' : (10 : Int) ≤ (m : Int) := by omega
      have hm2 : (m : Int) ≤ 1099511627776 := by omega
      have h1s : (⟨#[digB (m / 10 % 10)]⟩ : ByteArray).size = 1 := rfl
      have HCAT : Hid (strV (digB (m / 10 % 10) :: l) = .string ((⟨#[digB (m / 10 % 10)]⟩ : ByteArray) ++ sx)) := Lib.hid (by
        have : digB (m / 10 % 10) :: l = [digB (m / 10 % 10)] ++ l := rfl
        rw [this, strV_app, HSX.out])
      go_wp2_with (refine wpList_byte_str rfl (.tmp 18) rfl (u := digB (m / 10 % 10)) rfl (z := 48 + (m : Int) / 10 % 10) (by rw [digB_val (by omega)]; omega) (World.cell?_alloc_at _ _ _ _ rfl) ?_)
      go_roundw
      case rel => exact ⟨m / 10, _, by go_num, HCAT.out.symm, HD2.out, by omega, HBR.out.alloc hzr _⟩
      case measure => simp [intOf]; omega
    · have HE : Hid (Go.Lib.decDigits N = l) := Lib.hid (by have := HDT.out; unfold decTail at this; rwa [if_pos (by omega)] at this)
      have h10' : (m : Int) < 10 := by omega
      go_wp2
      go_ret
      exact ⟨by rw [HE.out]; show Ending.returned (Value.string sx) = Ending.returned (Value.string ⟨l.toArray⟩); rw [HSX.out], HBR.out⟩
end Go.Proofs.YtagjiljhbdjlfaaDoor
