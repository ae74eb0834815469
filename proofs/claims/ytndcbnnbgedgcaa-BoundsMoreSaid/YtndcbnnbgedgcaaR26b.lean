/-
  The walk of frankingref26.follow.
-/
import Derived.Test.YtndcbnnbgedgcaaR26a
set_option linter.unusedVariables false
set_option linter.unusedSimpArgs false
namespace Go.Proofs.Ytndcbnnbgedgcaa
open Go.RowKit

set_option maxHeartbeats 1000000 in
/-- frankingref26.follow -/
theorem follow_any (B : Nat) (w : World) (vi vk vp vs : Value) (x : Lot) (n : Int) (sp : List Int) (hx : IsLot B w vi vk vp x) (hs : IsInts B w vs sp) (hB : B ≤ w.heap.size)
    (hp : x.known = true → x.perm.length = x.ins.length) (hsp : sp ≠ []) (hn : 0 ≤ n) (hn2 : n ≤ 100000) (hsl : sp.length ≤ 100000) (hxl : x.ins.length ≤ 100000) :
    Calls Try.prog 91 #[.agg #[vi, vk, vp], .int .i64 n, vs] w fun e w' => ∃ v, e = .returned v ∧ OwnInts w.heap.size w' v (follTo x n sp x.ins.length) ∧ Below w.heap.size w w' := by
  obtain ⟨hi, rfl, hpm⟩ := hx
  have HI := Lib.hid hi
  have HP := Lib.hid hpm
  have HS := Lib.hid hs
  obtain ⟨b1, off1, cap1, ⟨a1, rfl, hcap1, hmax1, ha1⟩, hlen1, hz1, hc1⟩ := hi
  obtain ⟨b2, off2, cap2, ⟨a2, rfl, hcap2, hmax2, ha2⟩, hlen2, hz2, hc2⟩ := hpm
  have HC1 := Lib.hid hc1
  have HC2 := Lib.hid hc2
  have HA2 := Lib.hid ha2
  have HPL := Lib.hid hp
  have HS5 := Lib.hid (fun o o' => HS.out.below (((Below.refl B w).alloc hB o).alloc (by simp; omega) o') (Nat.le_refl _))
  clear hc1 hc2 hz1 hz2 hs hp ha2
  go_enter Try.func91, Try.ntmps91
  go_wp2_with (at_builtin; refine append_ints (B := w.heap.size + 1) (xs := []) rfl _ _ rfl rfl ?c1 rfl (HS5.out _ _) hsp ?c2 ?c3 ?c4)
  case c1 => exact OwnInts.made' (by simp) (by simp)
  case c2 => simp; omega
  case c3 => simp <;> omega
  case c4 =>
    intro v w5 ho5 hg5
    have HO5 : Hid (OwnInts (w.heap.size + 1) w5 v sp) := Lib.hid (by simpa using ho5)
    have HW5 : Hid (Below (w.heap.size + 1) (w.alloc (.cells #[.slice a1 x.ins.length cap1, .bool x.known, .slice a2 x.perm.length cap2] 45)) w5) :=
      Lib.hid (((Below.refl _ _).alloc (by simp) _).grown hg5 (by simp) (fun q hq => by simp [Value.ownBlock] at hq; omega))
    have HX5 := Lib.hid ((Box.new w _ _).below HW5.out (by omega))
    have HWW : Hid (Below w.heap.size w w5) := Lib.hid ((box_below (Nat.le_refl _) _).trans (HW5.out.mono (by omega)))
    clear ho5 hg5
    go_wp2
    go_loopw [7, 8] (fun v i wr => ∃ k : Nat, k ≤ x.ins.length ∧ i = .int .i64 k ∧ OwnInts (w.heap.size + 1) wr v (follTo x n sp k) ∧ Below (w.heap.size + 1) w5 wr) (fun _ i _ => x.ins.length - (intOf i).toNat)
    case atStart => exact ⟨0, by omega, rfl, HO5.out, Below.refl _ _⟩
    case round =>
      obtain ⟨k, hk, rfl, hno, hbr⟩ := hrel
      have HO := Lib.hid hno
      have HBR := Lib.hid hbr
      have HXR := Lib.hid (HX5.out.below hbr (by omega))
      have HWR : Hid (Below w.heap.size w wr) := Lib.hid (HWW.out.trans (HBR.out.mono (by omega)))
      obtain ⟨zr, rr⟩ := HXR.out
      clear hno hbr
      by_cases hlt : k < x.ins.length
      · have hwr : w.heap.size ≤ wr.heap.size := HWR.out.size
        go_wp2
        go_loop [9, 10] (fun c i => ∃ j : Nat, j ≤ x.ins.length ∧ i = .int .i64 j ∧ c = .bool (canTo x sp k j)) (fun _ i => x.ins.length - (intOf i).toNat)
        case atStart => exact ⟨0, by omega, rfl, rfl⟩
        case round =>
          obtain ⟨j, hj, rfl, rfl⟩ := hrel
          have HSt : Hid (canTo x sp k (j + 1) = (canTo x sp k j || (hasB sp (nth x.ins j) && (!x.known || (nth x.perm j == (k : Int)))))) := Lib.hid rfl
          by_cases hjl : j < x.ins.length
          · obtain rfl : a1 = some ⟨b1, off1, none⟩ := by rcases ha1 with ha | ha; exact ha; omega
            have hcell : wr.cell? ⟨b1, off1 + j, none⟩ = some (.int .i64 (nth x.ins j)) := (HWR.out.cell (p := ⟨b1, off1 + j, none⟩) (by have := (HC1.out j hjl).1; show b1 < _; omega)).trans (HC1.out j hjl).2
            cases hh : hasB sp (nth x.ins j)
            · have HH := Lib.hid hh
              clear hh
              go_wp2_with (go_at_call 23; refine (has_any B _ _ _ _ (HS.out.below HWR.out hB)).mono ?_; rintro e w' ⟨rfl, rfl⟩; rw [HH.out])
              go_round
              case rel => exact ⟨j + 1, by omega, by go_num, by rw [HSt.out, HH.out]; simp⟩
              case measure => simp [intOf]; omega
            · have HH := Lib.hid hh
              clear hh
              cases hkn : x.known
              · have HK := Lib.hid hkn
                go_wp2_with (go_at_call 23; refine (has_any B _ _ _ _ (HS.out.below HWR.out hB)).mono ?_; rintro e w' ⟨rfl, rfl⟩; rw [HH.out])
                go_round
                case rel => exact ⟨j + 1, by omega, by go_num, by rw [HSt.out, HH.out, HK.out]; simp⟩
                case measure => simp [intOf]; omega
              · have HK := Lib.hid hkn
                have hpl := HPL.out hkn
                have HPE := Lib.hid hpl
                obtain rfl : a2 = some ⟨b2, off2, none⟩ := by rcases HA2.out with ha | ha; exact ha; omega
                have hjp : j < x.perm.length := by omega
                have hcell2 : wr.cell? ⟨b2, off2 + j, none⟩ = some (.int .i64 (nth x.perm j)) := (HWR.out.cell (p := ⟨b2, off2 + j, none⟩) (by have := (HC2.out j hjp).1; show b2 < _; omega)).trans (HC2.out j hjp).2
                clear hpl
                cases hpe : (nth x.perm j == (k : Int))
                · have HPe := Lib.hid hpe
                  go_wp2_with (go_at_call 23; refine (has_any B _ _ _ _ (HS.out.below HWR.out hB)).mono ?_; rintro e w' ⟨rfl, rfl⟩; rw [HH.out])
                  go_round
                  case rel => exact ⟨j + 1, by omega, by go_num, by rw [HSt.out, HH.out, HK.out, HPe.out]; simp⟩
                  case measure => simp [intOf]; omega
                · have HPe := Lib.hid hpe
                  go_wp2_with (go_at_call 23; refine (has_any B _ _ _ _ (HS.out.below HWR.out hB)).mono ?_; rintro e w' ⟨rfl, rfl⟩; rw [HH.out])
                  go_round
                  case rel => exact ⟨j + 1, by omega, by go_num, by rw [HSt.out, HH.out, HK.out, HPe.out]; simp⟩
                  case measure => simp [intOf]; omega
          · obtain rfl : j = x.ins.length := by omega
            cases hcn : canTo x sp k x.ins.length
            · have HCN := Lib.hid hcn
              have HF : Hid (follTo x n sp (k + 1) = follTo x n sp k) := Lib.hid (by simp [follTo, hcn])
              clear hcn
              go_wp2
              go_roundw
              case rel => exact ⟨k + 1, by omega, by go_num, by rw [HF.out]; exact HO.out, HBR.out⟩
              case measure => simp [intOf]; omega
            · have HCN := Lib.hid hcn
              have HF : Hid (follTo x n sp (k + 1) = follTo x n sp k ++ [n + k]) := Lib.hid (by simp [follTo, hcn])
              have HLn := Lib.hid (follTo_len x n sp k)
              clear hcn
              go_wp2_with (at_builtin; refine append_int (n := n + (k : Int)) rfl _ _ rfl rfl (HO.out.alloc _) rfl ?d1 ?d2 ?d3 ?d4 ?d5)
              try (case d1 => exact World.cell?_alloc_at _ _ _ _ rfl)
              case d2 => unfold I64; omega
              case d3 => have := HLn.out; omega
              try (case d4 => simp; omega)
              case d5 =>
                intro v' w8 ho8 hg8
                have HO8 := Lib.hid ho8
                have HW8 : Hid (Below (w.heap.size + 1) w5 w8) := Lib.hid ((HBR.out.alloc (by omega) _).grown hg8 (by simp; omega) (fun q hq => (HO.out.1.lt q hq).1))
                clear ho8 hg8
                go_wp2
                go_roundw
                case rel => exact ⟨k + 1, by omega, by go_num, by rw [HF.out]; exact HO8.out, HW8.out⟩
                case measure => simp [intOf]; omega
      · obtain rfl : k = x.ins.length := by omega
        go_wp2
        go_ret
        exact ⟨_, rfl, HO.out.mono (by omega), HWR.out⟩

end Go.Proofs.Ytndcbnnbgedgcaa
