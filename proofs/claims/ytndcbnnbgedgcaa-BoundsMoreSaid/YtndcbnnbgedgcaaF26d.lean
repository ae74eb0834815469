/-
  The walk of the closure of reach.spots.
-/
import Derived.Test.YtndcbnnbgedgcaaF26c
import Derived.Test.YtndcbnnbgedgcaaR25d
set_option linter.unusedVariables false
set_option linter.unusedSimpArgs false
namespace Go.Proofs.Ytndcbnnbgedgcaa
open Go.RowKit

theorem run_makeFunc_any' {P : Program} (fn : Fn) (first cap : Array Value) (w : World) : (Instr.makeFunc fn first cap).run P w = .ok (.func fn first cap) w := rfl

set_option maxHeartbeats 1000000 in
set_option maxRecDepth 100000 in
theorem sfollow_any (B : Nat) (w : World) (vi vk vp : Value) (x : Lot) (n : Int) (S : List Int) (b m cap bc bn : Nat) (hx : IsLot B w vi vk vp x) (hB : B ≤ w.heap.size)
    (hc : Box w bc #[.slice (some ⟨b, 0, none⟩) m cap]) (hn : Cell1 w bn (.int .i64 n)) (hs : BitSet w b m S) (hd : b ≠ bc ∧ b ≠ bn ∧ bc ≠ bn ∧ B ≤ b ∧ B ≤ bn)
    (hins : ∀ y ∈ x.ins, 0 ≤ y ∧ y < n) (hperm : x.known = true → x.perm.length = x.ins.length ∧ ∀ y ∈ x.perm, 0 ≤ y ∧ y < x.ins.length) (hn0 : 0 ≤ n) (hm : n + x.ins.length ≤ 64 * m) (hm2 : m ≤ 1000) :
    Calls Try.prog 96 #[.agg #[vi, vk, vp], .pointer (some ⟨bc, 0, none⟩), .pointer (some ⟨bn, 0, none⟩)] w fun e w' => e = .returned (.tuple #[]) ∧
      BitSet w' b m (follTo x n S x.ins.length) ∧ Cell1 w' bn (.int .i64 (n + x.ins.length)) ∧ Turned (fun k => k = b ∨ k = bn) w w' := by
  have HX := Lib.hid hx
  obtain ⟨hi, rfl, hpm⟩ := hx
  obtain ⟨b1, off1, cap1, ⟨a1, rfl, hcap1, hmax1, ha1⟩, hlen1, hz1, hc1⟩ := hi
  obtain ⟨b2, off2, cap2, ⟨a2, rfl, hcap2, hmax2, ha2⟩, hlen2, hz2, hc2⟩ := hpm
  have HC1 := Lib.hid hc1
  have HC2 := Lib.hid hc2
  have HA2 := Lib.hid ha2
  have HZ1 := Lib.hid hz1
  have HIN := Lib.hid hins
  have HPM := Lib.hid hperm
  have HD := Lib.hid hd
  have HS := Lib.hid hs
  have HBC := Lib.hid hc
  have HBN := Lib.hid hn
  have HSAME := Lib.hid (fun y => pfoll_same (n := n) (S := S) hperm y)
  have HLOW : Hid (x.known = true → ∀ i, i < x.perm.length → 0 ≤ nth x.perm i ∧ nth x.perm i < x.ins.length) := Lib.hid fun hk i hi => (hperm hk).2 _ (by rw [nth_eq_getElem hi]; exact List.getElem_mem hi)
  have hmf := @run_makeFunc_any' Try.prog
  obtain ⟨z1, r1⟩ := hc
  clear hc1 hc2 hz1 hz2 ha2 hins hperm hd hs hn
  go_enter Try.func96, Try.ntmps96
  go_wp2_with fail
  have HL1 := Lib.hid (HX.out.below (box_below hB (.cells #[.slice a1 x.ins.length cap1, .bool x.known, .slice a2 x.perm.length cap2] 45)) (Nat.le_refl _))
  have HB1 := Lib.hid (Box.new w #[.slice a1 x.ins.length cap1, .bool x.known, .slice a2 x.perm.length cap2] 45)
  have HS1 := Lib.hid (HS.out.alloc (.cells #[.slice a1 x.ins.length cap1, .bool x.known, .slice a2 x.perm.length cap2] 45))
  have HC1' := Lib.hid (HBC.out.alloc (.cells #[.slice a1 x.ins.length cap1, .bool x.known, .slice a2 x.perm.length cap2] 45))
  have HN1 := Lib.hid (HBN.out.alloc (.cells #[.slice a1 x.ins.length cap1, .bool x.known, .slice a2 x.perm.length cap2] 45))
  have HW1 := Lib.hid (box_below' w (.cells #[.slice a1 x.ins.length cap1, .bool x.known, .slice a2 x.perm.length cap2] 45))
  have hlt : b < w.heap.size ∧ bc < w.heap.size ∧ bn < w.heap.size := ⟨HS.out.lt, HBC.out.1, HBN.out.lt⟩
  have HLT := Lib.hid hlt
  obtain ⟨bx, hbx⟩ : ∃ bx, w.heap.size = bx := ⟨_, rfl⟩
  rw [hbx] at HB1 HLT ⊢
  obtain ⟨w1, hw1⟩ : ∃ w1, w.alloc (.cells #[.slice a1 x.ins.length cap1, .bool x.known, .slice a2 x.perm.length cap2] 45) = w1 := ⟨_, rfl⟩
  rw [hw1] at HL1 HB1 HS1 HC1' HN1 HW1 ⊢
  clear hw1 z1 r1 hlt hmf
  have HOK : Hid (OkFn2 Try.prog 78 #[.slice (some ⟨b, 0, none⟩) m cap] #[] w1 (fun y => 0 ≤ y ∧ y < n) (hasB S)) := by
    refine Lib.hid ⟨enters_of Try.func78 (by kernel_rfl) rfl, fun W y hW hy => ?_⟩
    have h := (bhas_int b m cap S y W (HS1.out.ext hW) hy.1 (by omega) (by omega)).mono (R' := fun e W' => e = .returned (.bool (hasB S y)) ∧ Below W.heap.size W W') (by rintro e w' ⟨rfl, rfl⟩; exact ⟨rfl, Below.refl _ _⟩)
    exact h
  refine (containsf_any B w1 (.slice a1 x.ins.length cap1) x.ins _ _ _ (fun y => 0 ≤ y ∧ y < n) (hasB S) HL1.out.1 (by have := HW1.out.size; omega) HOK.out HIN.out).mono ?_
  rintro e w2 ⟨rfl, hb2⟩
  have HB2 := Lib.hid (HB1.out.ext hb2)
  have HS2 := Lib.hid (HS1.out.ext hb2)
  have HC2' := Lib.hid (HC1'.out.ext hb2)
  have HN2 := Lib.hid (HN1.out.ext hb2)
  have HW2 : Hid (Below bx w w2) := Lib.hid (by rw [← hbx]; exact HW1.out.trans (hb2.mono HW1.out.size))
  have HBBx : Hid (B ≤ bx ∧ w.heap.size = bx) := Lib.hid ⟨by omega, hbx⟩
  obtain ⟨sm, hsome⟩ : ∃ sm, anyB x.ins (hasB S) = sm := ⟨_, rfl⟩
  rw [hsome] at HSAME ⊢
  obtain ⟨z2, r2⟩ := HB2.out
  clear hsome hb2 hbx HB1 HS1 HC1' HN1 HW1 HL1
  go_wp2
  go_loopw [15] (fun i wr => ∃ k : Nat, k ≤ x.ins.length ∧ i = .int .i64 k ∧ BitSet wr b m (pfoll x n S sm k) ∧ w2.grownBy wr (some b)) (fun i _ => x.ins.length - (intOf i).toNat)
  case atStart => exact ⟨0, by omega, rfl, HS2.out, grown_refl _ _⟩
  case round =>
    obtain ⟨k, hk, rfl, hs, hg⟩ := hrel
    have HSR := Lib.hid hs
    have HGR := Lib.hid hg
    have HBR := Lib.hid (HB2.out.grown hg (by have := HLT.out; simp; omega))
    have HCR := Lib.hid (HC2'.out.grown hg (by have := HD.out; simp; omega))
    have HNR := Lib.hid (HN2.out.grown hg (by have := HD.out; simp; omega))
    have HWR : Hid (Below B w wr) := Lib.hid ((HW2.out.mono HBBx.out.1).grown hg (by have := HW2.out.size; have := HBBx.out; omega) (fun q hq => by cases hq; exact HD.out.2.2.2.1))
    clear hs hg z2 r2
    obtain ⟨z1, r1⟩ := HBR.out
    obtain ⟨z3, r3⟩ := HCR.out
    have c3 := HNR.out.cell
    have f3 := HNR.out.free
    by_cases hlt : k < x.ins.length
    · obtain rfl : a1 = some ⟨b1, off1, none⟩ := by rcases ha1 with ha | ha; exact ha; omega
      have hcell := (HWR.out.cell (p := ⟨b1, off1 + k, none⟩) (HC1.out k hlt).1).trans (HC1.out k hlt).2
      cases hsm : sm
      · have HT : Hid (pfoll x n S sm (k + 1) = pfoll x n S sm k) := Lib.hid (by simp [pfoll, hsm])
        have HSM := Lib.hid hsm
        subst hsm
        go_wp2
        go_roundw
        case rel => exact ⟨k + 1, by omega, by go_num, by rw [HT.out]; exact HSR.out, HGR.out⟩
        case measure => simp [intOf]; omega
      · cases hkn : x.known
        · have HT : Hid (pfoll x n S sm (k + 1) = pfoll x n S sm k ++ [n + (k : Int)]) := Lib.hid (by simp [pfoll, hsm, hkn])
          subst hsm
          have HKN := Lib.hid hkn
          rw [hkn] at r1
          clear hkn
          go_wp2_with (go_at_call 95; refine (badd_int b m cap _ _ wr HSR.out (by omega) (by omega) (by omega)).mono ?_; rintro e w7 ⟨rfl, hs7, hg7, _⟩; have HS7 := Lib.hid hs7; have HG7 := Lib.hid hg7; clear hs7 hg7)
          go_roundw
          case rel => exact ⟨k + 1, by omega, by go_num, by rw [HT.out]; exact HS7.out, grown_trans HGR.out HG7.out⟩
          case measure => simp [intOf]; omega
        · have HKN := Lib.hid hkn
          have hlow := HIN.out _ (show nth x.ins k ∈ x.ins by rw [nth_eq_getElem hlt]; exact List.getElem_mem hlt)
          have HHX := Lib.hid (pfoll_low (x := x) (n := n) (S := S) (some := sm) (y := nth x.ins k) (by
            intro i
            by_cases hi : i < x.perm.length
            · exact (HLOW.out hkn i hi).1
            · unfold nth; rw [List.getD_eq_getElem?_getD, List.getElem?_eq_none (by omega)]; simp) hlow.2 k)
          cases hh : hasB S (nth x.ins k)
          · have HT : Hid (pfoll x n S sm (k + 1) = pfoll x n S sm k) := Lib.hid (by simp [pfoll, hkn, hh])
            have HH : Hid (hasB (pfoll x n S sm k) (nth x.ins k) = false) := Lib.hid (by rw [HHX.out, hh])
            subst hsm
            rw [hkn] at r1
            clear hh hkn
            go_wp2_with (go_at_call 78; refine (bhas_int b m cap _ _ wr HSR.out (by omega) (by omega) (by omega)).mono ?_; rintro e w7 ⟨rfl, rfl⟩; rw [HH.out])
            go_roundw
            case rel => exact ⟨k + 1, by omega, by go_num, by rw [HT.out]; exact HSR.out, HGR.out⟩
            case measure => simp [intOf]; omega
          · have HT : Hid (pfoll x n S sm (k + 1) = pfoll x n S sm k ++ [n + nth x.perm k]) := Lib.hid (by simp [pfoll, hsm, hkn, hh])
            have HH : Hid (hasB (pfoll x n S sm k) (nth x.ins k) = true) := Lib.hid (by rw [HHX.out, hh])
            have hpl := (HPM.out hkn).1
            have hkp : k < x.perm.length := by omega
            have hpk := HLOW.out hkn k hkp
            have HPL := Lib.hid hpl
            obtain rfl : a2 = some ⟨b2, off2, none⟩ := by rcases HA2.out with ha | ha; exact ha; omega
            have hcell2 := (HWR.out.cell (p := ⟨b2, off2 + k, none⟩) (HC2.out k hkp).1).trans (HC2.out k hkp).2
            subst hsm
            rw [hkn] at r1
            clear hh hkn hpl
            go_wp2_with (go_at_call 78; refine (bhas_int b m cap _ _ wr HSR.out (by omega) (by omega) (by omega)).mono ?_; rintro e w7 ⟨rfl, rfl⟩; rw [HH.out])
            go_still_tail 8, (by kernel_rfl)
            change wpList _ _ _ _ _ w7.drew
            have HSD : Hid (BitSet w7.drew b m (pfoll x n S true k)) := Lib.hid HSR.out
            have HGD : Hid (w2.grownBy w7.drew (some b)) := Lib.hid ⟨HGR.out.os, HGR.out.tape, HGR.out.output, HGR.out.size, HGR.out.block⟩
            go_wp2_with (go_at_call 95; refine (badd_int b m cap _ _ w7.drew HSD.out (by omega) (by omega) (by omega)).mono ?_; rintro e w9 ⟨rfl, hs7, hg7, _⟩; have HS7 := Lib.hid hs7; have HG7 := Lib.hid hg7; clear hs7 hg7)
            go_roundw
            case rel => exact ⟨k + 1, by omega, by go_num, by rw [HT.out]; exact HS7.out, grown_trans HGD.out HG7.out⟩
            case measure => simp [intOf]; omega
    · obtain rfl : k = x.ins.length := by omega
      have hset := HNR.out.set (.int .i64 (n + x.ins.length))
      have HSE := Lib.hid hset
      have HFIN : Hid (BitSet (wr.setCell ⟨bn, 0, none⟩ (.int .i64 (n + x.ins.length))) b m (follTo x n S x.ins.length)) :=
        Lib.hid ((HSR.out.same HSAME.out).grown (grown_setCell _ _ _) (by have := HD.out; simp; omega))
      have HTU : Hid (Turned (fun k => k = b ∨ k = bn) w (wr.setCell ⟨bn, 0, none⟩ (.int .i64 (n + x.ins.length)))) :=
        Lib.hid (((Turned.of_below (X := fun k => k = b ∨ k = bn) (by have := HW2.out; rw [← HBBx.out.2] at this; exact this)).trans (Turned.of_grown HGR.out (fun k e => by cases e; exact Or.inl rfl))).trans (Turned.of_grown (grown_setCell _ _ _) (fun k e => by cases e; exact Or.inr rfl)))
      clear hset
      go_wp2
      go_end0
      exact ⟨rfl, HFIN.out, HSE.out, HTU.out⟩

end Go.Proofs.Ytndcbnnbgedgcaa
