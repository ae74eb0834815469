/-
  Layer 18: the walk of frankinglaw18.sane (printed by tools/gensn19.py).
-/
import Derived.Test.YtmfbabmejbppjaaSn18
set_option linter.unusedVariables false
set_option linter.unusedSimpArgs false
namespace Go.Proofs.Ytmfbabmejbppjaa
open Go.RowKit

theorem hag1 {x : WishD} (h : x.against.length ≤ 1000000) : ∀ k, k < [x].length → (wishAt [x] k).against.length ≤ 1000000 := by
  intro k hk
  obtain rfl : k = 0 := by simpa using hk
  exact h
theorem hag2 {x y : WishD} (h : x.against.length ≤ 1000000) (h2 : y.against.length ≤ 1000000) : ∀ k, k < [x, y].length → (wishAt [x, y] k).against.length ≤ 1000000 := by
  intro k hk
  have hk2 : k = 0 ∨ k = 1 := by simp at hk; omega
  rcases hk2 with rfl | rfl
  · exact h
  · exact h2
theorem exA_ok : okW (exW [97]) := okW_ex _ _ _ (by decide) (by unfold I64; omega)
theorem exLate_ok : okW exLate := okW_ex _ _ _ (by decide) (by unfold I64; omega)
theorem exAg_ok : okW exAg := okW_ex _ _ _ (by decide) (by unfold I64; omega)
theorem exO_ok : okO exO := by refine ⟨?_, ?_, ?_, ?_, ?_, ?_, ?_, ?_, ?_⟩ <;> (unfold I64 exO; simp)
theorem exZ_ok : okO exZ := by refine ⟨?_, ?_, ?_, ?_, ?_, ?_, ?_, ?_, ?_⟩ <;> (unfold I64 exZ; simp)

set_option maxHeartbeats 16000000 in
set_option maxRecDepth 100000 in
theorem sane18_any (w : World) : Calls Try.prog 9 #[] w fun e w' => e = .returned (.bool true) ∧ Below w.heap.size w w' := by
  obtain ⟨b0, hb0⟩ : ∃ b, w.heap.size = b := ⟨_, rfl⟩
  obtain ⟨W1, hW1⟩ : ∃ W, w.alloc (.cells #[.int .i64 0, .int .i64 0, .int .i64 1, .int .i64 0, .int .i64 0, .int .i64 9, .int .i64 2, .int .i64 7, .slice none 0 0, .bool false, .int .i64 0] 38) = W := ⟨_, rfl⟩
  have HB1 : Hid (Below w.heap.size w W1) := Lib.hid (by rw [← hW1]; exact box_below' w _)
  have HX1 : Hid (Box W1 b0 #[.int .i64 0, .int .i64 0, .int .i64 1, .int .i64 0, .int .i64 0, .int .i64 9, .int .i64 2, .int .i64 7, .slice none 0 0, .bool false, .int .i64 0]) := Lib.hid (by rw [← hW1, ← hb0]; exact Box.new _ _ _)
  have HW1 := Lib.hid hW1
  have HB0 := Lib.hid hb0
  clear hW1
  go_enter Try.func9, Try.ntmps9
  go_upto_region 2 with fail
  rw [HW1.out]
  try rw [hb0]
  clear hb0
  go_wp2_with fail
  refine (lawnames_any W1).mono ?_
  rintro e w2 ⟨rfl, q1, q2, q3, q4, hb⟩
  have HBw2 : Hid (Below W1.heap.size W1 w2) := Lib.hid hb
  have HCw2 := Lib.hid (And.intro q1 (And.intro q2 (And.intro q3 q4)))
  have HNw2 : Hid (IsNames w2.heap.size w2 (exV W1.heap.size) exN) := Lib.hid (exN_is q1 q2 q3 q4)
  clear q1 q2 q3 q4 hb
  go_wp2_with fail
  refine (lawwish_any w2 [97]).mono ?_
  rintro e w3 ⟨rfl, hb⟩
  have HBw3 : Hid (Below w2.heap.size w2 w3) := Lib.hid hb
  clear hb
  have hch := (((Below.refl W1.heap.size W1).trans (HBw2.out.mono (Below.refl W1.heap.size W1).size)).trans (HBw3.out.mono ((Below.refl W1.heap.size W1).trans (HBw2.out.mono (Below.refl W1.heap.size W1).size)).size))
  have HCH := Lib.hid (hch.alloc hch.size (.cells (wishC (.slice none 0 0) (exW [97])).toArray 41))
  have hsz := hch.size
  clear hch
  have HWI : Hid (IsWishes (w3.heap.size + 1) (w3.alloc (.cells (wishC (.slice none 0 0) (exW [97])).toArray 41)) (.slice (some ⟨w3.heap.size, 0, none⟩) 1 1) [exW [97]]) := Lib.hid (wish1 noStrs exA_ok)
  go_wp2_with fail
  refine (res_law W1 (w3.alloc (.cells (wishC (.slice none 0 0) (exW [97])).toArray 41)) (exV W1.heap.size) exN _ [exW [97]] 0 [exO] HCH.out ((HNw2.out.below (((Below.refl w2.heap.size w2).trans (HBw3.out.mono (Below.refl w2.heap.size w2).size)).alloc ((Below.refl w2.heap.size w2).trans (HBw3.out.mono (Below.refl w2.heap.size w2).size)).size _) (Nat.le_refl _)).mono (((Below.refl w2.heap.size w2).trans (HBw3.out.mono (Below.refl w2.heap.size w2).size)).alloc ((Below.refl w2.heap.size w2).trans (HBw3.out.mono (Below.refl w2.heap.size w2).size)).size _).size) exN_small (HWI.out.mono wishK (by simp)) (hag1 (by decide)) ex1.1 ex1.2).mono ?_
  rintro e w4 ⟨aw4, cw4, rfl, ho, hb⟩
  have HBw4 : Hid (Below W1.heap.size W1 w4) := Lib.hid hb
  have HOw4 := Lib.hid ho
  clear ho hb HWI HCH hsz
  go_wp2_with fail
  refine (lawwish_any w4 [97]).mono ?_
  rintro e w5 ⟨rfl, hb⟩
  have HBw5 : Hid (Below w4.heap.size w4 w5) := Lib.hid hb
  clear hb
  have hch := ((Below.refl w4.heap.size w4).trans (HBw5.out.mono (Below.refl w4.heap.size w4).size))
  have HCH := Lib.hid (hch.alloc hch.size (.cells (wishC (.slice none 0 0) (exW [97])).toArray 41))
  have hsz := hch.size
  clear hch
  have HWI : Hid (IsWishes (w5.heap.size + 1) (w5.alloc (.cells (wishC (.slice none 0 0) (exW [97])).toArray 41)) (.slice (some ⟨w5.heap.size, 0, none⟩) 1 1) [exW [97]]) := Lib.hid (wish1 noStrs exA_ok)
  go_wp2_with fail
  refine (res_law w4 (w5.alloc (.cells (wishC (.slice none 0 0) (exW [97])).toArray 41)) ⟨.slice none 0 0, .slice none 0 0, .slice none 0 0, .slice none 0 0⟩ exN0 _ [exW [97]] 180 [] HCH.out exN0_is exN0_small (HWI.out.mono wishK (by simp)) (hag1 (by decide)) ex2.1 ex2.2).mono ?_
  rintro e w6 ⟨aw6, cw6, rfl, ho, hb⟩
  have HBw6 : Hid (Below w4.heap.size w4 w6) := Lib.hid hb
  have HOw6 := Lib.hid ho
  clear ho hb HWI HCH hsz
  go_wp2_with fail
  refine (lawnames_any w6).mono ?_
  rintro e w7 ⟨rfl, q1, q2, q3, q4, hb⟩
  have HBw7 : Hid (Below w6.heap.size w6 w7) := Lib.hid hb
  have HCw7 := Lib.hid (And.intro q1 (And.intro q2 (And.intro q3 q4)))
  have HNw7 : Hid (IsNames w7.heap.size w7 (exV w6.heap.size) exN) := Lib.hid (exN_is q1 q2 q3 q4)
  clear q1 q2 q3 q4 hb
  go_wp2_with fail
  refine (lawwish_any w7 [97]).mono ?_
  rintro e w8 ⟨rfl, hb⟩
  have HBw8 : Hid (Below w7.heap.size w7 w8) := Lib.hid hb
  clear hb
  go_wp2_with fail
  refine (lawwish_any w8 [97]).mono ?_
  rintro e w9 ⟨rfl, hb⟩
  have HBw9 : Hid (Below w8.heap.size w8 w9) := Lib.hid hb
  clear hb
  have hch := ((((Below.refl w6.heap.size w6).trans (HBw7.out.mono (Below.refl w6.heap.size w6).size)).trans (HBw8.out.mono ((Below.refl w6.heap.size w6).trans (HBw7.out.mono (Below.refl w6.heap.size w6).size)).size)).trans (HBw9.out.mono (((Below.refl w6.heap.size w6).trans (HBw7.out.mono (Below.refl w6.heap.size w6).size)).trans (HBw8.out.mono ((Below.refl w6.heap.size w6).trans (HBw7.out.mono (Below.refl w6.heap.size w6).size)).size)).size))
  have HCH := Lib.hid (hch.alloc hch.size (.cells (wishC (.slice none 0 0) (exW [97]) ++ wishC (.slice none 0 0) (exW [97])).toArray 41))
  have hsz := hch.size
  clear hch
  have HWI : Hid (IsWishes (w9.heap.size + 1) (w9.alloc (.cells (wishC (.slice none 0 0) (exW [97]) ++ wishC (.slice none 0 0) (exW [97])).toArray 41)) (.slice (some ⟨w9.heap.size, 0, none⟩) 2 2) [exW [97], exW [97]]) := Lib.hid (wish2 rfl rfl exA_ok exA_ok)
  go_wp2_with fail
  refine (res_law w6 (w9.alloc (.cells (wishC (.slice none 0 0) (exW [97]) ++ wishC (.slice none 0 0) (exW [97])).toArray 41)) (exV w6.heap.size) exN _ [exW [97], exW [97]] 181 [] HCH.out ((HNw7.out.below ((((Below.refl w7.heap.size w7).trans (HBw8.out.mono (Below.refl w7.heap.size w7).size)).trans (HBw9.out.mono ((Below.refl w7.heap.size w7).trans (HBw8.out.mono (Below.refl w7.heap.size w7).size)).size)).alloc (((Below.refl w7.heap.size w7).trans (HBw8.out.mono (Below.refl w7.heap.size w7).size)).trans (HBw9.out.mono ((Below.refl w7.heap.size w7).trans (HBw8.out.mono (Below.refl w7.heap.size w7).size)).size)).size _) (Nat.le_refl _)).mono ((((Below.refl w7.heap.size w7).trans (HBw8.out.mono (Below.refl w7.heap.size w7).size)).trans (HBw9.out.mono ((Below.refl w7.heap.size w7).trans (HBw8.out.mono (Below.refl w7.heap.size w7).size)).size)).alloc (((Below.refl w7.heap.size w7).trans (HBw8.out.mono (Below.refl w7.heap.size w7).size)).trans (HBw9.out.mono ((Below.refl w7.heap.size w7).trans (HBw8.out.mono (Below.refl w7.heap.size w7).size)).size)).size _).size) exN_small (HWI.out.mono wishK (by simp)) (hag2 (by decide) (by decide)) ex3.1 ex3.2).mono ?_
  rintro e w10 ⟨aw10, cw10, rfl, ho, hb⟩
  have HBw10 : Hid (Below w6.heap.size w6 w10) := Lib.hid hb
  have HOw10 := Lib.hid ho
  clear ho hb HWI HCH hsz
  go_wp2_with fail
  refine (lawwish_any w10 [97]).mono ?_
  rintro e w11 ⟨rfl, hb⟩
  have HBw11 : Hid (Below w10.heap.size w10 w11) := Lib.hid hb
  clear hb
  obtain ⟨W12, hW12⟩ : ∃ W, w11.alloc (.cells #[strV [97], strV [120], strV [98, 111], strV [115, 108, 111, 119], .int .i64 9, .int .i64 9, .int .i64 2, .int .i64 7, .slice none 0 0, .bool false, .int .i64 0] 41) = W := ⟨_, rfl⟩
  have HB12 : Hid (Below w11.heap.size w11 W12) := Lib.hid (by rw [← hW12]; exact box_below' _ _)
  have HKW : Hid (Box W12 w11.heap.size #[strV [97], strV [120], strV [98, 111], strV [115, 108, 111, 119], .int .i64 9, .int .i64 9, .int .i64 2, .int .i64 7, .slice none 0 0, .bool false, .int .i64 0]) := Lib.hid (by rw [← hW12]; exact Box.new _ _ _)
  have HW12 := Lib.hid hW12
  clear hW12
  go_upto_region 7 with fail
  rw [HW12.out]
  have HKL : Hid (∀ W, Below W12.heap.size W12 W → ∀ i, W.cell? ⟨w11.heap.size, i, none⟩ = (#[strV [97], strV [120], strV [98, 111], strV [115, 108, 111, 119], .int .i64 9, .int .i64 9, .int .i64 2, .int .i64 7, .slice none 0 0, .bool false, .int .i64 0] : Array Value)[i]?) := Lib.hid fun W hW i => (HKW.out.ext hW).2 i
  obtain ⟨V, hV⟩ : ∃ V : List (Option Value), V = [none, some (.agg #[strV [97], strV [120], strV [98, 111], strV [115, 108, 111, 119], .int .i64 9, .int .i64 9, .int .i64 2, .int .i64 7, .slice none 0 0, .bool false, .int .i64 0]), none, none, none, none, some (.int .i64 182), none, some (.int .i64 182)] := ⟨_, rfl⟩
  have HVV := Lib.hid hV
  clear hV
  refine wp_region_V [some 42, some 43, some 44, some 45, some 41, some 46, some 47, some 9, some 10] (fun L w' xs => ValsAt V L xs ∧ (Below W12.heap.size W12 w' ∧ (L 0 = true → ∃ v : NamesV, xs 0 = v.agg ∧ IsNames w'.heap.size w' v exN) ∧ (L 2 = true → IsWishes w'.heap.size w' (xs 2) [exLate]) ∧ (L 3 = true → ∃ a c, xs 3 = .tuple #[.slice a 0 c, .int .i64 182] ∧ IsOrders w'.heap.size w' (.slice a 0 c) []) ∧ (L 4 = true → L 3 = true ∧ xs 4 = xs 3) ∧ (L 5 = true → L 3 = true ∧ ∃ y, xs 3 = .tuple #[xs 5, y]) ∧ (L 7 = true → L 3 = true ∧ ∃ y, xs 3 = .tuple #[xs 7, y]))) (by kernel_rfl) (by kernel_rfl) (by rfl) (by rfl) (by rfl) ?_ ?_ ?_
  focus
    exact fun xs => ⟨ValsAt.none _ _, (Below.refl _ _).drew, (fun h => by cases h), (fun h => by cases h), (fun h => by cases h), (fun h => by cases h), (fun h => by cases h), (fun h => by cases h)⟩
  focus
    refine ⟨?_, ?_, ?_, ?_, ?_, ?_, ?_, ?_, ?_, trivial⟩
    all_goals
      intro L a' w' xs hi hd hf hJ K hK
      obtain ⟨hv, hb, h0, h2, h3, h4, h5, h7⟩ := hJ
      have HF := Lib.hid hf
      have HVA := Lib.hid hv
      have HLI := Lib.hid hi
      clear hf hv hi
    focus
      clear hd
      obtain ⟨ρ, hρ⟩ : ∃ ρ, a'.eval = ρ := ⟨_, rfl⟩
      have hcst : ∀ v, ρ (.const v) = v := fun v => (congrFun hρ (.const v)).symm
      have hfun : ∀ k, ρ (.func k) = .func (.func k) #[] #[] := fun k => (congrFun hρ (.func k)).symm
      rw [if_pos (by simp [Region.wanted])]
      unfold Oper.wp
      rw [hρ]
      clear hρ
      have H0 := Lib.hid h0
      have H2 := Lib.hid h2
      have H3 := Lib.hid h3
      have H4 := Lib.hid h4
      have H5 := Lib.hid h5
      have H7 := Lib.hid h7
      clear h0 h2 h3 h4 h5 h7
      go_simp
      go_at_call 21
      refine (lawnames_any w').mono ?_
      rintro e w5 ⟨rfl, q1, q2, q3, q4, hb5⟩
      have HB5 := Lib.hid hb5
      have HN5 : Hid (IsNames w5.heap.size w5 (exV w'.heap.size) exN) := Lib.hid (exN_is q1 q2 q3 q4)
      clear q1 q2 q3 q4 hb5
      exact hK.out _ _ ⟨HVA.out.free (i := 0) (by rw [HVV.out]; rfl) _, hb.trans (HB5.out.mono hb.size), fun _ => ⟨_, updV_self _ _ _, HN5.out⟩, (fun h => by
          simp only [upd_ne (L := L) (show (2 : Nat) ≠ 0 by decide), upd_ne (L := L) (show (3 : Nat) ≠ 0 by decide), upd_ne (L := L) (show (4 : Nat) ≠ 0 by decide), upd_ne (L := L) (show (5 : Nat) ≠ 0 by decide), upd_ne (L := L) (show (7 : Nat) ≠ 0 by decide), updV_ne (xs := xs) (show (2 : Nat) ≠ 0 by decide), updV_ne (xs := xs) (show (3 : Nat) ≠ 0 by decide), updV_ne (xs := xs) (show (4 : Nat) ≠ 0 by decide), updV_ne (xs := xs) (show (5 : Nat) ≠ 0 by decide), updV_ne (xs := xs) (show (7 : Nat) ≠ 0 by decide)] at h ⊢
          exact (IsRecs.below wishK (H2.out h) HB5.out (Nat.le_refl _)).mono wishK HB5.out.size), (fun h => by
          simp only [upd_ne (L := L) (show (2 : Nat) ≠ 0 by decide), upd_ne (L := L) (show (3 : Nat) ≠ 0 by decide), upd_ne (L := L) (show (4 : Nat) ≠ 0 by decide), upd_ne (L := L) (show (5 : Nat) ≠ 0 by decide), upd_ne (L := L) (show (7 : Nat) ≠ 0 by decide), updV_ne (xs := xs) (show (2 : Nat) ≠ 0 by decide), updV_ne (xs := xs) (show (3 : Nat) ≠ 0 by decide), updV_ne (xs := xs) (show (4 : Nat) ≠ 0 by decide), updV_ne (xs := xs) (show (5 : Nat) ≠ 0 by decide), updV_ne (xs := xs) (show (7 : Nat) ≠ 0 by decide)] at h ⊢
          obtain ⟨a, c, e, hv⟩ := H3.out h
          exact ⟨a, c, e, (IsRecs.below orderK hv HB5.out (Nat.le_refl _)).mono orderK HB5.out.size⟩), (by simp only [upd_ne (L := L) (show (2 : Nat) ≠ 0 by decide), upd_ne (L := L) (show (3 : Nat) ≠ 0 by decide), upd_ne (L := L) (show (4 : Nat) ≠ 0 by decide), upd_ne (L := L) (show (5 : Nat) ≠ 0 by decide), upd_ne (L := L) (show (7 : Nat) ≠ 0 by decide), updV_ne (xs := xs) (show (2 : Nat) ≠ 0 by decide), updV_ne (xs := xs) (show (3 : Nat) ≠ 0 by decide), updV_ne (xs := xs) (show (4 : Nat) ≠ 0 by decide), updV_ne (xs := xs) (show (5 : Nat) ≠ 0 by decide), updV_ne (xs := xs) (show (7 : Nat) ≠ 0 by decide)]; exact H4.out), (by simp only [upd_ne (L := L) (show (2 : Nat) ≠ 0 by decide), upd_ne (L := L) (show (3 : Nat) ≠ 0 by decide), upd_ne (L := L) (show (4 : Nat) ≠ 0 by decide), upd_ne (L := L) (show (5 : Nat) ≠ 0 by decide), upd_ne (L := L) (show (7 : Nat) ≠ 0 by decide), updV_ne (xs := xs) (show (2 : Nat) ≠ 0 by decide), updV_ne (xs := xs) (show (3 : Nat) ≠ 0 by decide), updV_ne (xs := xs) (show (4 : Nat) ≠ 0 by decide), updV_ne (xs := xs) (show (5 : Nat) ≠ 0 by decide), updV_ne (xs := xs) (show (7 : Nat) ≠ 0 by decide)]; exact H5.out), (by simp only [upd_ne (L := L) (show (2 : Nat) ≠ 0 by decide), upd_ne (L := L) (show (3 : Nat) ≠ 0 by decide), upd_ne (L := L) (show (4 : Nat) ≠ 0 by decide), upd_ne (L := L) (show (5 : Nat) ≠ 0 by decide), upd_ne (L := L) (show (7 : Nat) ≠ 0 by decide), updV_ne (xs := xs) (show (2 : Nat) ≠ 0 by decide), updV_ne (xs := xs) (show (3 : Nat) ≠ 0 by decide), updV_ne (xs := xs) (show (4 : Nat) ≠ 0 by decide), updV_ne (xs := xs) (show (5 : Nat) ≠ 0 by decide), updV_ne (xs := xs) (show (7 : Nat) ≠ 0 by decide)]; exact H7.out)⟩
    focus
      clear hd
      obtain ⟨ρ, hρ⟩ : ∃ ρ, a'.eval = ρ := ⟨_, rfl⟩
      have hcst : ∀ v, ρ (.const v) = v := fun v => (congrFun hρ (.const v)).symm
      have l8 : ρ (.tmp 8) = .pointer (some ⟨w11.heap.size, 0, none⟩) := (congrFun hρ (.tmp 8)).symm.trans (HF.out.lo 8 rfl)
      rw [if_pos (by simp [Region.wanted])]
      unfold Oper.wp
      rw [hρ]
      clear hρ
      have H0 := Lib.hid h0
      have H2 := Lib.hid h2
      have H3 := Lib.hid h3
      have H4 := Lib.hid h4
      have H5 := Lib.hid h5
      have H7 := Lib.hid h7
      clear h0 h2 h3 h4 h5 h7
      have k0 := HKL.out _ hb 0
      have k1 := HKL.out _ hb 1
      have k2 := HKL.out _ hb 2
      have k3 := HKL.out _ hb 3
      have k4 := HKL.out _ hb 4
      have k5 := HKL.out _ hb 5
      have k6 := HKL.out _ hb 6
      have k7 := HKL.out _ hb 7
      have k8 := HKL.out _ hb 8
      have k9 := HKL.out _ hb 9
      have k10 := HKL.out _ hb 10
      simp at k0 k1 k2 k3 k4 k5 k6 k7 k8 k9 k10
      go_simp
      exact hK.out _ _ ⟨HVA.out.set (i := 1) (by rw [HVV.out]; rfl), hb, (by simp only [upd_ne (L := L) (show (0 : Nat) ≠ 1 by decide), upd_ne (L := L) (show (2 : Nat) ≠ 1 by decide), upd_ne (L := L) (show (3 : Nat) ≠ 1 by decide), upd_ne (L := L) (show (4 : Nat) ≠ 1 by decide), upd_ne (L := L) (show (5 : Nat) ≠ 1 by decide), upd_ne (L := L) (show (7 : Nat) ≠ 1 by decide), updV_ne (xs := xs) (show (0 : Nat) ≠ 1 by decide), updV_ne (xs := xs) (show (2 : Nat) ≠ 1 by decide), updV_ne (xs := xs) (show (3 : Nat) ≠ 1 by decide), updV_ne (xs := xs) (show (4 : Nat) ≠ 1 by decide), updV_ne (xs := xs) (show (5 : Nat) ≠ 1 by decide), updV_ne (xs := xs) (show (7 : Nat) ≠ 1 by decide)]; exact H0.out), (by simp only [upd_ne (L := L) (show (0 : Nat) ≠ 1 by decide), upd_ne (L := L) (show (2 : Nat) ≠ 1 by decide), upd_ne (L := L) (show (3 : Nat) ≠ 1 by decide), upd_ne (L := L) (show (4 : Nat) ≠ 1 by decide), upd_ne (L := L) (show (5 : Nat) ≠ 1 by decide), upd_ne (L := L) (show (7 : Nat) ≠ 1 by decide), updV_ne (xs := xs) (show (0 : Nat) ≠ 1 by decide), updV_ne (xs := xs) (show (2 : Nat) ≠ 1 by decide), updV_ne (xs := xs) (show (3 : Nat) ≠ 1 by decide), updV_ne (xs := xs) (show (4 : Nat) ≠ 1 by decide), updV_ne (xs := xs) (show (5 : Nat) ≠ 1 by decide), updV_ne (xs := xs) (show (7 : Nat) ≠ 1 by decide)]; exact H2.out), (by simp only [upd_ne (L := L) (show (0 : Nat) ≠ 1 by decide), upd_ne (L := L) (show (2 : Nat) ≠ 1 by decide), upd_ne (L := L) (show (3 : Nat) ≠ 1 by decide), upd_ne (L := L) (show (4 : Nat) ≠ 1 by decide), upd_ne (L := L) (show (5 : Nat) ≠ 1 by decide), upd_ne (L := L) (show (7 : Nat) ≠ 1 by decide), updV_ne (xs := xs) (show (0 : Nat) ≠ 1 by decide), updV_ne (xs := xs) (show (2 : Nat) ≠ 1 by decide), updV_ne (xs := xs) (show (3 : Nat) ≠ 1 by decide), updV_ne (xs := xs) (show (4 : Nat) ≠ 1 by decide), updV_ne (xs := xs) (show (5 : Nat) ≠ 1 by decide), updV_ne (xs := xs) (show (7 : Nat) ≠ 1 by decide)]; exact H3.out), (by simp only [upd_ne (L := L) (show (0 : Nat) ≠ 1 by decide), upd_ne (L := L) (show (2 : Nat) ≠ 1 by decide), upd_ne (L := L) (show (3 : Nat) ≠ 1 by decide), upd_ne (L := L) (show (4 : Nat) ≠ 1 by decide), upd_ne (L := L) (show (5 : Nat) ≠ 1 by decide), upd_ne (L := L) (show (7 : Nat) ≠ 1 by decide), updV_ne (xs := xs) (show (0 : Nat) ≠ 1 by decide), updV_ne (xs := xs) (show (2 : Nat) ≠ 1 by decide), updV_ne (xs := xs) (show (3 : Nat) ≠ 1 by decide), updV_ne (xs := xs) (show (4 : Nat) ≠ 1 by decide), updV_ne (xs := xs) (show (5 : Nat) ≠ 1 by decide), updV_ne (xs := xs) (show (7 : Nat) ≠ 1 by decide)]; exact H4.out), (by simp only [upd_ne (L := L) (show (0 : Nat) ≠ 1 by decide), upd_ne (L := L) (show (2 : Nat) ≠ 1 by decide), upd_ne (L := L) (show (3 : Nat) ≠ 1 by decide), upd_ne (L := L) (show (4 : Nat) ≠ 1 by decide), upd_ne (L := L) (show (5 : Nat) ≠ 1 by decide), upd_ne (L := L) (show (7 : Nat) ≠ 1 by decide), updV_ne (xs := xs) (show (0 : Nat) ≠ 1 by decide), updV_ne (xs := xs) (show (2 : Nat) ≠ 1 by decide), updV_ne (xs := xs) (show (3 : Nat) ≠ 1 by decide), updV_ne (xs := xs) (show (4 : Nat) ≠ 1 by decide), updV_ne (xs := xs) (show (5 : Nat) ≠ 1 by decide), updV_ne (xs := xs) (show (7 : Nat) ≠ 1 by decide)]; exact H5.out), (by simp only [upd_ne (L := L) (show (0 : Nat) ≠ 1 by decide), upd_ne (L := L) (show (2 : Nat) ≠ 1 by decide), upd_ne (L := L) (show (3 : Nat) ≠ 1 by decide), upd_ne (L := L) (show (4 : Nat) ≠ 1 by decide), upd_ne (L := L) (show (5 : Nat) ≠ 1 by decide), upd_ne (L := L) (show (7 : Nat) ≠ 1 by decide), updV_ne (xs := xs) (show (0 : Nat) ≠ 1 by decide), updV_ne (xs := xs) (show (2 : Nat) ≠ 1 by decide), updV_ne (xs := xs) (show (3 : Nat) ≠ 1 by decide), updV_ne (xs := xs) (show (4 : Nat) ≠ 1 by decide), updV_ne (xs := xs) (show (5 : Nat) ≠ 1 by decide), updV_ne (xs := xs) (show (7 : Nat) ≠ 1 by decide)]; exact H7.out)⟩
    focus
      obtain ⟨d1, _⟩ := hd
      obtain ⟨ρ, hρ⟩ : ∃ ρ, a'.eval = ρ := ⟨_, rfl⟩
      have hcst : ∀ v, ρ (.const v) = v := fun v => (congrFun hρ (.const v)).symm
      have v1 : ρ (.tmp 43) = .agg #[strV [97], strV [120], strV [98, 111], strV [115, 108, 111, 119], .int .i64 9, .int .i64 9, .int .i64 2, .int .i64 7, .slice none 0 0, .bool false, .int .i64 0] := (congrFun hρ (.tmp 43)).symm.trans ((HF.out.ev 1 rfl d1).trans (HVA.out 1 _ (by rw [HVV.out]; rfl) d1))
      rw [if_pos (by simp [Region.wanted])]
      unfold Oper.wp
      rw [hρ]
      clear hρ
      have H0 := Lib.hid h0
      have H2 := Lib.hid h2
      have H3 := Lib.hid h3
      have H4 := Lib.hid h4
      have H5 := Lib.hid h5
      have H7 := Lib.hid h7
      clear h0 h2 h3 h4 h5 h7
      have HB5 := Lib.hid (box_below' w' (.cells (wishC (.slice none 0 0) exLate).toArray 41))
      have HW5 := Lib.hid (wish1 (w := w') (va := .slice none 0 0) (x := exLate) (t := 41) (noStrs) exLate_ok)
      go_simp
      exact hK.out _ _ ⟨HVA.out.free (i := 2) (by rw [HVV.out]; rfl) _, hb.trans (HB5.out.mono hb.size), (fun h => by
          simp only [upd_ne (L := L) (show (0 : Nat) ≠ 2 by decide), upd_ne (L := L) (show (3 : Nat) ≠ 2 by decide), upd_ne (L := L) (show (4 : Nat) ≠ 2 by decide), upd_ne (L := L) (show (5 : Nat) ≠ 2 by decide), upd_ne (L := L) (show (7 : Nat) ≠ 2 by decide), updV_ne (xs := xs) (show (0 : Nat) ≠ 2 by decide), updV_ne (xs := xs) (show (3 : Nat) ≠ 2 by decide), updV_ne (xs := xs) (show (4 : Nat) ≠ 2 by decide), updV_ne (xs := xs) (show (5 : Nat) ≠ 2 by decide), updV_ne (xs := xs) (show (7 : Nat) ≠ 2 by decide)] at h ⊢
          obtain ⟨v, e, hv⟩ := H0.out h
          exact ⟨v, e, (hv.below HB5.out (Nat.le_refl _)).mono HB5.out.size⟩), fun _ => by rw [updV_self]; exact HW5.out.mono wishK (by simp), (fun h => by
          simp only [upd_ne (L := L) (show (0 : Nat) ≠ 2 by decide), upd_ne (L := L) (show (3 : Nat) ≠ 2 by decide), upd_ne (L := L) (show (4 : Nat) ≠ 2 by decide), upd_ne (L := L) (show (5 : Nat) ≠ 2 by decide), upd_ne (L := L) (show (7 : Nat) ≠ 2 by decide), updV_ne (xs := xs) (show (0 : Nat) ≠ 2 by decide), updV_ne (xs := xs) (show (3 : Nat) ≠ 2 by decide), updV_ne (xs := xs) (show (4 : Nat) ≠ 2 by decide), updV_ne (xs := xs) (show (5 : Nat) ≠ 2 by decide), updV_ne (xs := xs) (show (7 : Nat) ≠ 2 by decide)] at h ⊢
          obtain ⟨a, c, e, hv⟩ := H3.out h
          exact ⟨a, c, e, (IsRecs.below orderK hv HB5.out (Nat.le_refl _)).mono orderK HB5.out.size⟩), (by simp only [upd_ne (L := L) (show (0 : Nat) ≠ 2 by decide), upd_ne (L := L) (show (3 : Nat) ≠ 2 by decide), upd_ne (L := L) (show (4 : Nat) ≠ 2 by decide), upd_ne (L := L) (show (5 : Nat) ≠ 2 by decide), upd_ne (L := L) (show (7 : Nat) ≠ 2 by decide), updV_ne (xs := xs) (show (0 : Nat) ≠ 2 by decide), updV_ne (xs := xs) (show (3 : Nat) ≠ 2 by decide), updV_ne (xs := xs) (show (4 : Nat) ≠ 2 by decide), updV_ne (xs := xs) (show (5 : Nat) ≠ 2 by decide), updV_ne (xs := xs) (show (7 : Nat) ≠ 2 by decide)]; exact H4.out), (by simp only [upd_ne (L := L) (show (0 : Nat) ≠ 2 by decide), upd_ne (L := L) (show (3 : Nat) ≠ 2 by decide), upd_ne (L := L) (show (4 : Nat) ≠ 2 by decide), upd_ne (L := L) (show (5 : Nat) ≠ 2 by decide), upd_ne (L := L) (show (7 : Nat) ≠ 2 by decide), updV_ne (xs := xs) (show (0 : Nat) ≠ 2 by decide), updV_ne (xs := xs) (show (3 : Nat) ≠ 2 by decide), updV_ne (xs := xs) (show (4 : Nat) ≠ 2 by decide), updV_ne (xs := xs) (show (5 : Nat) ≠ 2 by decide), updV_ne (xs := xs) (show (7 : Nat) ≠ 2 by decide)]; exact H5.out), (by simp only [upd_ne (L := L) (show (0 : Nat) ≠ 2 by decide), upd_ne (L := L) (show (3 : Nat) ≠ 2 by decide), upd_ne (L := L) (show (4 : Nat) ≠ 2 by decide), upd_ne (L := L) (show (5 : Nat) ≠ 2 by decide), upd_ne (L := L) (show (7 : Nat) ≠ 2 by decide), updV_ne (xs := xs) (show (0 : Nat) ≠ 2 by decide), updV_ne (xs := xs) (show (3 : Nat) ≠ 2 by decide), updV_ne (xs := xs) (show (4 : Nat) ≠ 2 by decide), updV_ne (xs := xs) (show (5 : Nat) ≠ 2 by decide), updV_ne (xs := xs) (show (7 : Nat) ≠ 2 by decide)]; exact H7.out)⟩
    focus
      obtain ⟨d0, d2, _, _⟩ := hd
      obtain ⟨ρ, hρ⟩ : ∃ ρ, a'.eval = ρ := ⟨_, rfl⟩
      have hcst : ∀ v, ρ (.const v) = v := fun v => (congrFun hρ (.const v)).symm
      have hfun : ∀ k, ρ (.func k) = .func (.func k) #[] #[] := fun k => (congrFun hρ (.func k)).symm
      have v0 : ρ (.tmp 42) = xs 0 := (congrFun hρ (.tmp 42)).symm.trans (HF.out.ev 0 rfl d0)
      have v2 : ρ (.tmp 44) = xs 2 := (congrFun hρ (.tmp 44)).symm.trans (HF.out.ev 2 rfl d2)
      rw [if_pos (by simp [Region.wanted])]
      unfold Oper.wp
      rw [hρ]
      clear hρ
      have H0 := Lib.hid h0
      have H2 := Lib.hid h2
      have H3 := Lib.hid h3
      have H4 := Lib.hid h4
      have H5 := Lib.hid h5
      have H7 := Lib.hid h7
      clear h0 h2 h3 h4 h5 h7
      obtain ⟨v, e0, hv⟩ := H0.out d0
      have hwi := H2.out d2
      rw [e0] at v0
      have HNV := Lib.hid hv
      have HWI := Lib.hid hwi
      have E0 := Lib.hid e0
      clear hv hwi e0
      go_simp
      go_at_call 12
      refine (res_law w' w' v exN (xs 2) [exLate] 182 [] (Below.refl _ _) HNV.out exN_small HWI.out (hag1 (by decide)) ex4.1 ex4.2).mono ?_
      rintro e w5 ⟨a5, c5, rfl, ho5, hb5⟩
      have HB5 := Lib.hid hb5
      have HO5 := Lib.hid ho5
      clear hb5 ho5
      exact hK.out _ _ ⟨HVA.out.free (i := 3) (by rw [HVV.out]; rfl) _, hb.trans (HB5.out.mono hb.size), (fun h => by
          simp only [upd_ne (L := L) (show (0 : Nat) ≠ 3 by decide), upd_ne (L := L) (show (2 : Nat) ≠ 3 by decide), upd_ne (L := L) (show (4 : Nat) ≠ 3 by decide), upd_ne (L := L) (show (5 : Nat) ≠ 3 by decide), upd_ne (L := L) (show (7 : Nat) ≠ 3 by decide), updV_ne (xs := xs) (show (0 : Nat) ≠ 3 by decide), updV_ne (xs := xs) (show (2 : Nat) ≠ 3 by decide), updV_ne (xs := xs) (show (4 : Nat) ≠ 3 by decide), updV_ne (xs := xs) (show (5 : Nat) ≠ 3 by decide), updV_ne (xs := xs) (show (7 : Nat) ≠ 3 by decide)] at h ⊢
          obtain ⟨v, e, hv⟩ := H0.out h
          exact ⟨v, e, (hv.below HB5.out (Nat.le_refl _)).mono HB5.out.size⟩), (fun h => by
          simp only [upd_ne (L := L) (show (0 : Nat) ≠ 3 by decide), upd_ne (L := L) (show (2 : Nat) ≠ 3 by decide), upd_ne (L := L) (show (4 : Nat) ≠ 3 by decide), upd_ne (L := L) (show (5 : Nat) ≠ 3 by decide), upd_ne (L := L) (show (7 : Nat) ≠ 3 by decide), updV_ne (xs := xs) (show (0 : Nat) ≠ 3 by decide), updV_ne (xs := xs) (show (2 : Nat) ≠ 3 by decide), updV_ne (xs := xs) (show (4 : Nat) ≠ 3 by decide), updV_ne (xs := xs) (show (5 : Nat) ≠ 3 by decide), updV_ne (xs := xs) (show (7 : Nat) ≠ 3 by decide)] at h ⊢
          exact (IsRecs.below wishK (H2.out h) HB5.out (Nat.le_refl _)).mono wishK HB5.out.size), fun _ => ⟨a5, c5, updV_self _ _ _, HO5.out⟩, (fun h => by simp only [upd_ne (L := L) (show (4 : Nat) ≠ 3 by decide)] at h; have := (H4.out h).1; rw [HLI.out] at this; cases this), (fun h => by simp only [upd_ne (L := L) (show (5 : Nat) ≠ 3 by decide)] at h; have := (H5.out h).1; rw [HLI.out] at this; cases this), (fun h => by simp only [upd_ne (L := L) (show (7 : Nat) ≠ 3 by decide)] at h; have := (H7.out h).1; rw [HLI.out] at this; cases this)⟩
    focus
      obtain ⟨d3, _⟩ := hd
      obtain ⟨ρ, hρ⟩ : ∃ ρ, a'.eval = ρ := ⟨_, rfl⟩
      have hcst : ∀ v, ρ (.const v) = v := fun v => (congrFun hρ (.const v)).symm
      have v3 : ρ (.tmp 45) = xs 3 := (congrFun hρ (.tmp 45)).symm.trans (HF.out.ev 3 rfl d3)
      rw [if_pos (by simp [Region.wanted])]
      unfold Oper.wp
      rw [hρ]
      clear hρ
      have H0 := Lib.hid h0
      have H2 := Lib.hid h2
      have H3 := Lib.hid h3
      have H4 := Lib.hid h4
      have H5 := Lib.hid h5
      have H7 := Lib.hid h7
      clear h0 h2 h3 h4 h5 h7
      go_simp
      exact hK.out _ _ ⟨HVA.out.free (i := 4) (by rw [HVV.out]; rfl) _, hb, (by simp only [upd_ne (L := L) (show (0 : Nat) ≠ 4 by decide), upd_ne (L := L) (show (2 : Nat) ≠ 4 by decide), upd_ne (L := L) (show (3 : Nat) ≠ 4 by decide), upd_ne (L := L) (show (5 : Nat) ≠ 4 by decide), upd_ne (L := L) (show (7 : Nat) ≠ 4 by decide), updV_ne (xs := xs) (show (0 : Nat) ≠ 4 by decide), updV_ne (xs := xs) (show (2 : Nat) ≠ 4 by decide), updV_ne (xs := xs) (show (3 : Nat) ≠ 4 by decide), updV_ne (xs := xs) (show (5 : Nat) ≠ 4 by decide), updV_ne (xs := xs) (show (7 : Nat) ≠ 4 by decide)]; exact H0.out), (by simp only [upd_ne (L := L) (show (0 : Nat) ≠ 4 by decide), upd_ne (L := L) (show (2 : Nat) ≠ 4 by decide), upd_ne (L := L) (show (3 : Nat) ≠ 4 by decide), upd_ne (L := L) (show (5 : Nat) ≠ 4 by decide), upd_ne (L := L) (show (7 : Nat) ≠ 4 by decide), updV_ne (xs := xs) (show (0 : Nat) ≠ 4 by decide), updV_ne (xs := xs) (show (2 : Nat) ≠ 4 by decide), updV_ne (xs := xs) (show (3 : Nat) ≠ 4 by decide), updV_ne (xs := xs) (show (5 : Nat) ≠ 4 by decide), updV_ne (xs := xs) (show (7 : Nat) ≠ 4 by decide)]; exact H2.out), (by simp only [upd_ne (L := L) (show (0 : Nat) ≠ 4 by decide), upd_ne (L := L) (show (2 : Nat) ≠ 4 by decide), upd_ne (L := L) (show (3 : Nat) ≠ 4 by decide), upd_ne (L := L) (show (5 : Nat) ≠ 4 by decide), upd_ne (L := L) (show (7 : Nat) ≠ 4 by decide), updV_ne (xs := xs) (show (0 : Nat) ≠ 4 by decide), updV_ne (xs := xs) (show (2 : Nat) ≠ 4 by decide), updV_ne (xs := xs) (show (3 : Nat) ≠ 4 by decide), updV_ne (xs := xs) (show (5 : Nat) ≠ 4 by decide), updV_ne (xs := xs) (show (7 : Nat) ≠ 4 by decide)]; exact H3.out), (fun _ => by simp only [upd_ne (L := L) (show (0 : Nat) ≠ 4 by decide), upd_ne (L := L) (show (2 : Nat) ≠ 4 by decide), upd_ne (L := L) (show (3 : Nat) ≠ 4 by decide), upd_ne (L := L) (show (5 : Nat) ≠ 4 by decide), upd_ne (L := L) (show (7 : Nat) ≠ 4 by decide), updV_ne (xs := xs) (show (0 : Nat) ≠ 4 by decide), updV_ne (xs := xs) (show (2 : Nat) ≠ 4 by decide), updV_ne (xs := xs) (show (3 : Nat) ≠ 4 by decide), updV_ne (xs := xs) (show (5 : Nat) ≠ 4 by decide), updV_ne (xs := xs) (show (7 : Nat) ≠ 4 by decide), updV_self]; first | exact ⟨d3, rfl⟩ | exact ⟨d3, trivial⟩), (by simp only [upd_ne (L := L) (show (0 : Nat) ≠ 4 by decide), upd_ne (L := L) (show (2 : Nat) ≠ 4 by decide), upd_ne (L := L) (show (3 : Nat) ≠ 4 by decide), upd_ne (L := L) (show (5 : Nat) ≠ 4 by decide), upd_ne (L := L) (show (7 : Nat) ≠ 4 by decide), updV_ne (xs := xs) (show (0 : Nat) ≠ 4 by decide), updV_ne (xs := xs) (show (2 : Nat) ≠ 4 by decide), updV_ne (xs := xs) (show (3 : Nat) ≠ 4 by decide), updV_ne (xs := xs) (show (5 : Nat) ≠ 4 by decide), updV_ne (xs := xs) (show (7 : Nat) ≠ 4 by decide)]; exact H5.out), (by simp only [upd_ne (L := L) (show (0 : Nat) ≠ 4 by decide), upd_ne (L := L) (show (2 : Nat) ≠ 4 by decide), upd_ne (L := L) (show (3 : Nat) ≠ 4 by decide), upd_ne (L := L) (show (5 : Nat) ≠ 4 by decide), upd_ne (L := L) (show (7 : Nat) ≠ 4 by decide), updV_ne (xs := xs) (show (0 : Nat) ≠ 4 by decide), updV_ne (xs := xs) (show (2 : Nat) ≠ 4 by decide), updV_ne (xs := xs) (show (3 : Nat) ≠ 4 by decide), updV_ne (xs := xs) (show (5 : Nat) ≠ 4 by decide), updV_ne (xs := xs) (show (7 : Nat) ≠ 4 by decide)]; exact H7.out)⟩
    focus
      obtain ⟨d4, _⟩ := hd
      obtain ⟨ρ, hρ⟩ : ∃ ρ, a'.eval = ρ := ⟨_, rfl⟩
      have hcst : ∀ v, ρ (.const v) = v := fun v => (congrFun hρ (.const v)).symm
      have v4 : ρ (.tmp 41) = xs 4 := (congrFun hρ (.tmp 41)).symm.trans (HF.out.ev 4 rfl d4)
      rw [if_pos (by simp [Region.wanted])]
      unfold Oper.wp
      rw [hρ]
      clear hρ
      have H0 := Lib.hid h0
      have H2 := Lib.hid h2
      have H3 := Lib.hid h3
      have H4 := Lib.hid h4
      have H5 := Lib.hid h5
      have H7 := Lib.hid h7
      clear h0 h2 h3 h4 h5 h7
      obtain ⟨h3, e4⟩ := H4.out d4
      obtain ⟨a5, c5, e3, _⟩ := H3.out h3
      rw [e4, e3] at v4
      have H33 := Lib.hid h3
      have E3 := Lib.hid e3
      clear h3 e3 e4
      go_simp
      exact hK.out _ _ ⟨HVA.out.free (i := 5) (by rw [HVV.out]; rfl) _, hb, (by simp only [upd_ne (L := L) (show (0 : Nat) ≠ 5 by decide), upd_ne (L := L) (show (2 : Nat) ≠ 5 by decide), upd_ne (L := L) (show (3 : Nat) ≠ 5 by decide), upd_ne (L := L) (show (4 : Nat) ≠ 5 by decide), upd_ne (L := L) (show (7 : Nat) ≠ 5 by decide), updV_ne (xs := xs) (show (0 : Nat) ≠ 5 by decide), updV_ne (xs := xs) (show (2 : Nat) ≠ 5 by decide), updV_ne (xs := xs) (show (3 : Nat) ≠ 5 by decide), updV_ne (xs := xs) (show (4 : Nat) ≠ 5 by decide), updV_ne (xs := xs) (show (7 : Nat) ≠ 5 by decide)]; exact H0.out), (by simp only [upd_ne (L := L) (show (0 : Nat) ≠ 5 by decide), upd_ne (L := L) (show (2 : Nat) ≠ 5 by decide), upd_ne (L := L) (show (3 : Nat) ≠ 5 by decide), upd_ne (L := L) (show (4 : Nat) ≠ 5 by decide), upd_ne (L := L) (show (7 : Nat) ≠ 5 by decide), updV_ne (xs := xs) (show (0 : Nat) ≠ 5 by decide), updV_ne (xs := xs) (show (2 : Nat) ≠ 5 by decide), updV_ne (xs := xs) (show (3 : Nat) ≠ 5 by decide), updV_ne (xs := xs) (show (4 : Nat) ≠ 5 by decide), updV_ne (xs := xs) (show (7 : Nat) ≠ 5 by decide)]; exact H2.out), (by simp only [upd_ne (L := L) (show (0 : Nat) ≠ 5 by decide), upd_ne (L := L) (show (2 : Nat) ≠ 5 by decide), upd_ne (L := L) (show (3 : Nat) ≠ 5 by decide), upd_ne (L := L) (show (4 : Nat) ≠ 5 by decide), upd_ne (L := L) (show (7 : Nat) ≠ 5 by decide), updV_ne (xs := xs) (show (0 : Nat) ≠ 5 by decide), updV_ne (xs := xs) (show (2 : Nat) ≠ 5 by decide), updV_ne (xs := xs) (show (3 : Nat) ≠ 5 by decide), updV_ne (xs := xs) (show (4 : Nat) ≠ 5 by decide), updV_ne (xs := xs) (show (7 : Nat) ≠ 5 by decide)]; exact H3.out), (by simp only [upd_ne (L := L) (show (0 : Nat) ≠ 5 by decide), upd_ne (L := L) (show (2 : Nat) ≠ 5 by decide), upd_ne (L := L) (show (3 : Nat) ≠ 5 by decide), upd_ne (L := L) (show (4 : Nat) ≠ 5 by decide), upd_ne (L := L) (show (7 : Nat) ≠ 5 by decide), updV_ne (xs := xs) (show (0 : Nat) ≠ 5 by decide), updV_ne (xs := xs) (show (2 : Nat) ≠ 5 by decide), updV_ne (xs := xs) (show (3 : Nat) ≠ 5 by decide), updV_ne (xs := xs) (show (4 : Nat) ≠ 5 by decide), updV_ne (xs := xs) (show (7 : Nat) ≠ 5 by decide)]; exact H4.out), (fun _ => by simp only [upd_ne (L := L) (show (0 : Nat) ≠ 5 by decide), upd_ne (L := L) (show (2 : Nat) ≠ 5 by decide), upd_ne (L := L) (show (3 : Nat) ≠ 5 by decide), upd_ne (L := L) (show (4 : Nat) ≠ 5 by decide), upd_ne (L := L) (show (7 : Nat) ≠ 5 by decide), updV_ne (xs := xs) (show (0 : Nat) ≠ 5 by decide), updV_ne (xs := xs) (show (2 : Nat) ≠ 5 by decide), updV_ne (xs := xs) (show (3 : Nat) ≠ 5 by decide), updV_ne (xs := xs) (show (4 : Nat) ≠ 5 by decide), updV_ne (xs := xs) (show (7 : Nat) ≠ 5 by decide), updV_self]; exact ⟨H33.out, _, E3.out⟩), (by simp only [upd_ne (L := L) (show (0 : Nat) ≠ 5 by decide), upd_ne (L := L) (show (2 : Nat) ≠ 5 by decide), upd_ne (L := L) (show (3 : Nat) ≠ 5 by decide), upd_ne (L := L) (show (4 : Nat) ≠ 5 by decide), upd_ne (L := L) (show (7 : Nat) ≠ 5 by decide), updV_ne (xs := xs) (show (0 : Nat) ≠ 5 by decide), updV_ne (xs := xs) (show (2 : Nat) ≠ 5 by decide), updV_ne (xs := xs) (show (3 : Nat) ≠ 5 by decide), updV_ne (xs := xs) (show (4 : Nat) ≠ 5 by decide), updV_ne (xs := xs) (show (7 : Nat) ≠ 5 by decide)]; exact H7.out)⟩
    focus
      obtain ⟨d4, _⟩ := hd
      obtain ⟨ρ, hρ⟩ : ∃ ρ, a'.eval = ρ := ⟨_, rfl⟩
      have hcst : ∀ v, ρ (.const v) = v := fun v => (congrFun hρ (.const v)).symm
      have v4 : ρ (.tmp 41) = xs 4 := (congrFun hρ (.tmp 41)).symm.trans (HF.out.ev 4 rfl d4)
      rw [if_pos (by simp [Region.wanted])]
      unfold Oper.wp
      rw [hρ]
      clear hρ
      have H0 := Lib.hid h0
      have H2 := Lib.hid h2
      have H3 := Lib.hid h3
      have H4 := Lib.hid h4
      have H5 := Lib.hid h5
      have H7 := Lib.hid h7
      clear h0 h2 h3 h4 h5 h7
      obtain ⟨h3, e4⟩ := H4.out d4
      obtain ⟨a5, c5, e3, _⟩ := H3.out h3
      rw [e4, e3] at v4
      have H33 := Lib.hid h3
      have E3 := Lib.hid e3
      clear h3 e3 e4
      go_simp
      exact hK.out _ _ ⟨HVA.out.set (i := 6) (by rw [HVV.out]; rfl), hb, (by simp only [upd_ne (L := L) (show (0 : Nat) ≠ 6 by decide), upd_ne (L := L) (show (2 : Nat) ≠ 6 by decide), upd_ne (L := L) (show (3 : Nat) ≠ 6 by decide), upd_ne (L := L) (show (4 : Nat) ≠ 6 by decide), upd_ne (L := L) (show (5 : Nat) ≠ 6 by decide), upd_ne (L := L) (show (7 : Nat) ≠ 6 by decide), updV_ne (xs := xs) (show (0 : Nat) ≠ 6 by decide), updV_ne (xs := xs) (show (2 : Nat) ≠ 6 by decide), updV_ne (xs := xs) (show (3 : Nat) ≠ 6 by decide), updV_ne (xs := xs) (show (4 : Nat) ≠ 6 by decide), updV_ne (xs := xs) (show (5 : Nat) ≠ 6 by decide), updV_ne (xs := xs) (show (7 : Nat) ≠ 6 by decide)]; exact H0.out), (by simp only [upd_ne (L := L) (show (0 : Nat) ≠ 6 by decide), upd_ne (L := L) (show (2 : Nat) ≠ 6 by decide), upd_ne (L := L) (show (3 : Nat) ≠ 6 by decide), upd_ne (L := L) (show (4 : Nat) ≠ 6 by decide), upd_ne (L := L) (show (5 : Nat) ≠ 6 by decide), upd_ne (L := L) (show (7 : Nat) ≠ 6 by decide), updV_ne (xs := xs) (show (0 : Nat) ≠ 6 by decide), updV_ne (xs := xs) (show (2 : Nat) ≠ 6 by decide), updV_ne (xs := xs) (show (3 : Nat) ≠ 6 by decide), updV_ne (xs := xs) (show (4 : Nat) ≠ 6 by decide), updV_ne (xs := xs) (show (5 : Nat) ≠ 6 by decide), updV_ne (xs := xs) (show (7 : Nat) ≠ 6 by decide)]; exact H2.out), (by simp only [upd_ne (L := L) (show (0 : Nat) ≠ 6 by decide), upd_ne (L := L) (show (2 : Nat) ≠ 6 by decide), upd_ne (L := L) (show (3 : Nat) ≠ 6 by decide), upd_ne (L := L) (show (4 : Nat) ≠ 6 by decide), upd_ne (L := L) (show (5 : Nat) ≠ 6 by decide), upd_ne (L := L) (show (7 : Nat) ≠ 6 by decide), updV_ne (xs := xs) (show (0 : Nat) ≠ 6 by decide), updV_ne (xs := xs) (show (2 : Nat) ≠ 6 by decide), updV_ne (xs := xs) (show (3 : Nat) ≠ 6 by decide), updV_ne (xs := xs) (show (4 : Nat) ≠ 6 by decide), updV_ne (xs := xs) (show (5 : Nat) ≠ 6 by decide), updV_ne (xs := xs) (show (7 : Nat) ≠ 6 by decide)]; exact H3.out), (by simp only [upd_ne (L := L) (show (0 : Nat) ≠ 6 by decide), upd_ne (L := L) (show (2 : Nat) ≠ 6 by decide), upd_ne (L := L) (show (3 : Nat) ≠ 6 by decide), upd_ne (L := L) (show (4 : Nat) ≠ 6 by decide), upd_ne (L := L) (show (5 : Nat) ≠ 6 by decide), upd_ne (L := L) (show (7 : Nat) ≠ 6 by decide), updV_ne (xs := xs) (show (0 : Nat) ≠ 6 by decide), updV_ne (xs := xs) (show (2 : Nat) ≠ 6 by decide), updV_ne (xs := xs) (show (3 : Nat) ≠ 6 by decide), updV_ne (xs := xs) (show (4 : Nat) ≠ 6 by decide), updV_ne (xs := xs) (show (5 : Nat) ≠ 6 by decide), updV_ne (xs := xs) (show (7 : Nat) ≠ 6 by decide)]; exact H4.out), (by simp only [upd_ne (L := L) (show (0 : Nat) ≠ 6 by decide), upd_ne (L := L) (show (2 : Nat) ≠ 6 by decide), upd_ne (L := L) (show (3 : Nat) ≠ 6 by decide), upd_ne (L := L) (show (4 : Nat) ≠ 6 by decide), upd_ne (L := L) (show (5 : Nat) ≠ 6 by decide), upd_ne (L := L) (show (7 : Nat) ≠ 6 by decide), updV_ne (xs := xs) (show (0 : Nat) ≠ 6 by decide), updV_ne (xs := xs) (show (2 : Nat) ≠ 6 by decide), updV_ne (xs := xs) (show (3 : Nat) ≠ 6 by decide), updV_ne (xs := xs) (show (4 : Nat) ≠ 6 by decide), updV_ne (xs := xs) (show (5 : Nat) ≠ 6 by decide), updV_ne (xs := xs) (show (7 : Nat) ≠ 6 by decide)]; exact H5.out), (by simp only [upd_ne (L := L) (show (0 : Nat) ≠ 6 by decide), upd_ne (L := L) (show (2 : Nat) ≠ 6 by decide), upd_ne (L := L) (show (3 : Nat) ≠ 6 by decide), upd_ne (L := L) (show (4 : Nat) ≠ 6 by decide), upd_ne (L := L) (show (5 : Nat) ≠ 6 by decide), upd_ne (L := L) (show (7 : Nat) ≠ 6 by decide), updV_ne (xs := xs) (show (0 : Nat) ≠ 6 by decide), updV_ne (xs := xs) (show (2 : Nat) ≠ 6 by decide), updV_ne (xs := xs) (show (3 : Nat) ≠ 6 by decide), updV_ne (xs := xs) (show (4 : Nat) ≠ 6 by decide), updV_ne (xs := xs) (show (5 : Nat) ≠ 6 by decide), updV_ne (xs := xs) (show (7 : Nat) ≠ 6 by decide)]; exact H7.out)⟩
    focus
      obtain ⟨d5, d3, d0, d1, d2, _, d4, _, _⟩ := hd
      obtain ⟨ρ, hρ⟩ : ∃ ρ, a'.eval = ρ := ⟨_, rfl⟩
      have hcst : ∀ v, ρ (.const v) = v := fun v => (congrFun hρ (.const v)).symm
      have v5 : ρ (.tmp 46) = xs 5 := (congrFun hρ (.tmp 46)).symm.trans (HF.out.ev 5 rfl d5)
      rw [if_pos (by simp [Region.wanted])]
      unfold Oper.wp
      rw [hρ]
      clear hρ
      have H0 := Lib.hid h0
      have H2 := Lib.hid h2
      have H3 := Lib.hid h3
      have H4 := Lib.hid h4
      have H5 := Lib.hid h5
      have H7 := Lib.hid h7
      clear h0 h2 h3 h4 h5 h7
      obtain ⟨h3, y, e3⟩ := H5.out d5
      have H33 := Lib.hid h3
      have E3 := Lib.hid e3
      clear h3 e3
      go_simp
      exact hK.out _ _ ⟨HVA.out.free (i := 7) (by rw [HVV.out]; rfl) _, hb, (by simp only [upd_ne (L := L) (show (0 : Nat) ≠ 7 by decide), upd_ne (L := L) (show (2 : Nat) ≠ 7 by decide), upd_ne (L := L) (show (3 : Nat) ≠ 7 by decide), upd_ne (L := L) (show (4 : Nat) ≠ 7 by decide), upd_ne (L := L) (show (5 : Nat) ≠ 7 by decide), updV_ne (xs := xs) (show (0 : Nat) ≠ 7 by decide), updV_ne (xs := xs) (show (2 : Nat) ≠ 7 by decide), updV_ne (xs := xs) (show (3 : Nat) ≠ 7 by decide), updV_ne (xs := xs) (show (4 : Nat) ≠ 7 by decide), updV_ne (xs := xs) (show (5 : Nat) ≠ 7 by decide)]; exact H0.out), (by simp only [upd_ne (L := L) (show (0 : Nat) ≠ 7 by decide), upd_ne (L := L) (show (2 : Nat) ≠ 7 by decide), upd_ne (L := L) (show (3 : Nat) ≠ 7 by decide), upd_ne (L := L) (show (4 : Nat) ≠ 7 by decide), upd_ne (L := L) (show (5 : Nat) ≠ 7 by decide), updV_ne (xs := xs) (show (0 : Nat) ≠ 7 by decide), updV_ne (xs := xs) (show (2 : Nat) ≠ 7 by decide), updV_ne (xs := xs) (show (3 : Nat) ≠ 7 by decide), updV_ne (xs := xs) (show (4 : Nat) ≠ 7 by decide), updV_ne (xs := xs) (show (5 : Nat) ≠ 7 by decide)]; exact H2.out), (by simp only [upd_ne (L := L) (show (0 : Nat) ≠ 7 by decide), upd_ne (L := L) (show (2 : Nat) ≠ 7 by decide), upd_ne (L := L) (show (3 : Nat) ≠ 7 by decide), upd_ne (L := L) (show (4 : Nat) ≠ 7 by decide), upd_ne (L := L) (show (5 : Nat) ≠ 7 by decide), updV_ne (xs := xs) (show (0 : Nat) ≠ 7 by decide), updV_ne (xs := xs) (show (2 : Nat) ≠ 7 by decide), updV_ne (xs := xs) (show (3 : Nat) ≠ 7 by decide), updV_ne (xs := xs) (show (4 : Nat) ≠ 7 by decide), updV_ne (xs := xs) (show (5 : Nat) ≠ 7 by decide)]; exact H3.out), (by simp only [upd_ne (L := L) (show (0 : Nat) ≠ 7 by decide), upd_ne (L := L) (show (2 : Nat) ≠ 7 by decide), upd_ne (L := L) (show (3 : Nat) ≠ 7 by decide), upd_ne (L := L) (show (4 : Nat) ≠ 7 by decide), upd_ne (L := L) (show (5 : Nat) ≠ 7 by decide), updV_ne (xs := xs) (show (0 : Nat) ≠ 7 by decide), updV_ne (xs := xs) (show (2 : Nat) ≠ 7 by decide), updV_ne (xs := xs) (show (3 : Nat) ≠ 7 by decide), updV_ne (xs := xs) (show (4 : Nat) ≠ 7 by decide), updV_ne (xs := xs) (show (5 : Nat) ≠ 7 by decide)]; exact H4.out), (by simp only [upd_ne (L := L) (show (0 : Nat) ≠ 7 by decide), upd_ne (L := L) (show (2 : Nat) ≠ 7 by decide), upd_ne (L := L) (show (3 : Nat) ≠ 7 by decide), upd_ne (L := L) (show (4 : Nat) ≠ 7 by decide), upd_ne (L := L) (show (5 : Nat) ≠ 7 by decide), updV_ne (xs := xs) (show (0 : Nat) ≠ 7 by decide), updV_ne (xs := xs) (show (2 : Nat) ≠ 7 by decide), updV_ne (xs := xs) (show (3 : Nat) ≠ 7 by decide), updV_ne (xs := xs) (show (4 : Nat) ≠ 7 by decide), updV_ne (xs := xs) (show (5 : Nat) ≠ 7 by decide)]; exact H5.out), (fun _ => by simp only [upd_ne (L := L) (show (0 : Nat) ≠ 7 by decide), upd_ne (L := L) (show (2 : Nat) ≠ 7 by decide), upd_ne (L := L) (show (3 : Nat) ≠ 7 by decide), upd_ne (L := L) (show (4 : Nat) ≠ 7 by decide), upd_ne (L := L) (show (5 : Nat) ≠ 7 by decide), updV_ne (xs := xs) (show (0 : Nat) ≠ 7 by decide), updV_ne (xs := xs) (show (2 : Nat) ≠ 7 by decide), updV_ne (xs := xs) (show (3 : Nat) ≠ 7 by decide), updV_ne (xs := xs) (show (4 : Nat) ≠ 7 by decide), updV_ne (xs := xs) (show (5 : Nat) ≠ 7 by decide), updV_self]; exact ⟨H33.out, _, E3.out⟩)⟩
    focus
      obtain ⟨d6, d7, d0, d1, d2, d3, d4, d5, _, _, _⟩ := hd
      obtain ⟨ρ, hρ⟩ : ∃ ρ, a'.eval = ρ := ⟨_, rfl⟩
      have hcst : ∀ v, ρ (.const v) = v := fun v => (congrFun hρ (.const v)).symm
      have v6 : ρ (.tmp 47) = .int .i64 182 := (congrFun hρ (.tmp 47)).symm.trans ((HF.out.ev 6 rfl d6).trans (HVA.out 6 _ (by rw [HVV.out]; rfl) d6))
      rw [if_pos (by simp [Region.wanted])]
      unfold Oper.wp
      rw [hρ]
      clear hρ
      have H0 := Lib.hid h0
      have H2 := Lib.hid h2
      have H3 := Lib.hid h3
      have H4 := Lib.hid h4
      have H5 := Lib.hid h5
      have H7 := Lib.hid h7
      clear h0 h2 h3 h4 h5 h7
      go_simp
      exact hK.out _ _ ⟨HVA.out.set (i := 8) (by rw [HVV.out]; rfl), hb, (by simp only [upd_ne (L := L) (show (0 : Nat) ≠ 8 by decide), upd_ne (L := L) (show (2 : Nat) ≠ 8 by decide), upd_ne (L := L) (show (3 : Nat) ≠ 8 by decide), upd_ne (L := L) (show (4 : Nat) ≠ 8 by decide), upd_ne (L := L) (show (5 : Nat) ≠ 8 by decide), upd_ne (L := L) (show (7 : Nat) ≠ 8 by decide), updV_ne (xs := xs) (show (0 : Nat) ≠ 8 by decide), updV_ne (xs := xs) (show (2 : Nat) ≠ 8 by decide), updV_ne (xs := xs) (show (3 : Nat) ≠ 8 by decide), updV_ne (xs := xs) (show (4 : Nat) ≠ 8 by decide), updV_ne (xs := xs) (show (5 : Nat) ≠ 8 by decide), updV_ne (xs := xs) (show (7 : Nat) ≠ 8 by decide)]; exact H0.out), (by simp only [upd_ne (L := L) (show (0 : Nat) ≠ 8 by decide), upd_ne (L := L) (show (2 : Nat) ≠ 8 by decide), upd_ne (L := L) (show (3 : Nat) ≠ 8 by decide), upd_ne (L := L) (show (4 : Nat) ≠ 8 by decide), upd_ne (L := L) (show (5 : Nat) ≠ 8 by decide), upd_ne (L := L) (show (7 : Nat) ≠ 8 by decide), updV_ne (xs := xs) (show (0 : Nat) ≠ 8 by decide), updV_ne (xs := xs) (show (2 : Nat) ≠ 8 by decide), updV_ne (xs := xs) (show (3 : Nat) ≠ 8 by decide), updV_ne (xs := xs) (show (4 : Nat) ≠ 8 by decide), updV_ne (xs := xs) (show (5 : Nat) ≠ 8 by decide), updV_ne (xs := xs) (show (7 : Nat) ≠ 8 by decide)]; exact H2.out), (by simp only [upd_ne (L := L) (show (0 : Nat) ≠ 8 by decide), upd_ne (L := L) (show (2 : Nat) ≠ 8 by decide), upd_ne (L := L) (show (3 : Nat) ≠ 8 by decide), upd_ne (L := L) (show (4 : Nat) ≠ 8 by decide), upd_ne (L := L) (show (5 : Nat) ≠ 8 by decide), upd_ne (L := L) (show (7 : Nat) ≠ 8 by decide), updV_ne (xs := xs) (show (0 : Nat) ≠ 8 by decide), updV_ne (xs := xs) (show (2 : Nat) ≠ 8 by decide), updV_ne (xs := xs) (show (3 : Nat) ≠ 8 by decide), updV_ne (xs := xs) (show (4 : Nat) ≠ 8 by decide), updV_ne (xs := xs) (show (5 : Nat) ≠ 8 by decide), updV_ne (xs := xs) (show (7 : Nat) ≠ 8 by decide)]; exact H3.out), (by simp only [upd_ne (L := L) (show (0 : Nat) ≠ 8 by decide), upd_ne (L := L) (show (2 : Nat) ≠ 8 by decide), upd_ne (L := L) (show (3 : Nat) ≠ 8 by decide), upd_ne (L := L) (show (4 : Nat) ≠ 8 by decide), upd_ne (L := L) (show (5 : Nat) ≠ 8 by decide), upd_ne (L := L) (show (7 : Nat) ≠ 8 by decide), updV_ne (xs := xs) (show (0 : Nat) ≠ 8 by decide), updV_ne (xs := xs) (show (2 : Nat) ≠ 8 by decide), updV_ne (xs := xs) (show (3 : Nat) ≠ 8 by decide), updV_ne (xs := xs) (show (4 : Nat) ≠ 8 by decide), updV_ne (xs := xs) (show (5 : Nat) ≠ 8 by decide), updV_ne (xs := xs) (show (7 : Nat) ≠ 8 by decide)]; exact H4.out), (by simp only [upd_ne (L := L) (show (0 : Nat) ≠ 8 by decide), upd_ne (L := L) (show (2 : Nat) ≠ 8 by decide), upd_ne (L := L) (show (3 : Nat) ≠ 8 by decide), upd_ne (L := L) (show (4 : Nat) ≠ 8 by decide), upd_ne (L := L) (show (5 : Nat) ≠ 8 by decide), upd_ne (L := L) (show (7 : Nat) ≠ 8 by decide), updV_ne (xs := xs) (show (0 : Nat) ≠ 8 by decide), updV_ne (xs := xs) (show (2 : Nat) ≠ 8 by decide), updV_ne (xs := xs) (show (3 : Nat) ≠ 8 by decide), updV_ne (xs := xs) (show (4 : Nat) ≠ 8 by decide), updV_ne (xs := xs) (show (5 : Nat) ≠ 8 by decide), updV_ne (xs := xs) (show (7 : Nat) ≠ 8 by decide)]; exact H5.out), (by simp only [upd_ne (L := L) (show (0 : Nat) ≠ 8 by decide), upd_ne (L := L) (show (2 : Nat) ≠ 8 by decide), upd_ne (L := L) (show (3 : Nat) ≠ 8 by decide), upd_ne (L := L) (show (4 : Nat) ≠ 8 by decide), upd_ne (L := L) (show (5 : Nat) ≠ 8 by decide), upd_ne (L := L) (show (7 : Nat) ≠ 8 by decide), updV_ne (xs := xs) (show (0 : Nat) ≠ 8 by decide), updV_ne (xs := xs) (show (2 : Nat) ≠ 8 by decide), updV_ne (xs := xs) (show (3 : Nat) ≠ 8 by decide), updV_ne (xs := xs) (show (4 : Nat) ≠ 8 by decide), updV_ne (xs := xs) (show (5 : Nat) ≠ 8 by decide), updV_ne (xs := xs) (show (7 : Nat) ≠ 8 by decide)]; exact H7.out)⟩
  focus
    intro L w' xs hL hJ
    obtain ⟨hv, hb, h0, h2, h3, h4, h5, h7⟩ := hJ
    have e1 : xs 1 = .agg #[strV [97], strV [120], strV [98, 111], strV [115, 108, 111, 119], .int .i64 9, .int .i64 9, .int .i64 2, .int .i64 7, .slice none 0 0, .bool false, .int .i64 0] := hv 1 _ (by rw [HVV.out]; rfl) (hL 1 (by decide))
    have e6 : xs 6 = .int .i64 182 := hv 6 _ (by rw [HVV.out]; rfl) (hL 6 (by decide))
    have e8 : xs 8 = .int .i64 182 := hv 8 _ (by rw [HVV.out]; rfl) (hL 8 (by decide))
    simp only [putGo, Act.put, List.setIfInBounds_toArray, List.set_cons_zero, List.set_cons_succ, e1, e6, e8]
    clear hv e1 e6 e8
    obtain ⟨aw13, cw13, e3, ho⟩ := h3 (hL 3 (by decide))
    obtain ⟨_, y, e7⟩ := h7 (hL 7 (by decide))
    rw [e3] at e7
    have e7' : xs 7 = .slice aw13 0 cw13 := by injection e7 with e7; simp at e7; exact e7.1.symm
    rw [e7']
    have HBw13 : Hid (Below W12.heap.size W12 w') := Lib.hid hb
    have HOw13 := Lib.hid ho
    clear hb h0 h2 h3 h4 h5 h7 ho e3 e7 e7' hL HKL
    obtain ⟨w13, rfl⟩ : ∃ W, W = w' := ⟨_, rfl⟩
    go_wp2_with fail
    refine (lawwish_any w13 [98]).mono ?_
    rintro e w14 ⟨rfl, hb⟩
    have HBw14 : Hid (Below w13.heap.size w13 w14) := Lib.hid hb
    clear hb
    obtain ⟨W15, hW15⟩ : ∃ W, (w14.alloc (.cells #[strV [98], strV [120], strV [98, 111], strV [115, 108, 111, 119], .int .i64 0, .int .i64 9, .int .i64 2, .int .i64 7, .slice (some ⟨w14.heap.size + 1, 0, none⟩) 2 2, .bool false, .int .i64 0] 41)).alloc (.cells #[strV [121], strV [120]] 9) = W := ⟨_, rfl⟩
    have HB15 : Hid (Below w14.heap.size w14 W15) := Lib.hid (by rw [← hW15]; exact (box_below' _ _).alloc (by simp) _)
    have HKW2 : Hid (Box W15 w14.heap.size #[strV [98], strV [120], strV [98, 111], strV [115, 108, 111, 119], .int .i64 0, .int .i64 9, .int .i64 2, .int .i64 7, .slice (some ⟨w14.heap.size + 1, 0, none⟩) 2 2, .bool false, .int .i64 0]) := Lib.hid (by rw [← hW15]; exact (Box.new _ _ _).alloc _)
    have HSA : Hid (IsStrs W15.heap.size W15 (.slice (some ⟨w14.heap.size + 1, 0, none⟩) 2 2) exAg.against) := Lib.hid (by
      rw [← hW15]
      have h := CellsN.new (w14.alloc (.cells #[strV [98], strV [120], strV [98, 111], strV [115, 108, 111, 119], .int .i64 0, .int .i64 9, .int .i64 2, .int .i64 7, .slice (some ⟨w14.heap.size + 1, 0, none⟩) 2 2, .bool false, .int .i64 0] 41)) #[strV [121], strV [120]] 9
      rw [World.size_alloc] at h
      exact strsOf (xs := [[121], [120]]) h (by decide) (by omega) (by simp))
    have HW15 := Lib.hid hW15
    clear hW15 HKW
    have HKW := HKW2
    clear HKW2
    go_upto_region 10 with fail
    rw [HW15.out]
    have HKL : Hid (∀ W, Below W15.heap.size W15 W → ∀ i, W.cell? ⟨w14.heap.size, i, none⟩ = (#[strV [98], strV [120], strV [98, 111], strV [115, 108, 111, 119], .int .i64 0, .int .i64 9, .int .i64 2, .int .i64 7, .slice (some ⟨w14.heap.size + 1, 0, none⟩) 2 2, .bool false, .int .i64 0] : Array Value)[i]?) := Lib.hid fun W hW i => (HKW.out.ext hW).2 i
    obtain ⟨V, hV⟩ : ∃ V : List (Option Value), V = [none, some (.agg #[strV [98], strV [120], strV [98, 111], strV [115, 108, 111, 119], .int .i64 0, .int .i64 9, .int .i64 2, .int .i64 7, .slice (some ⟨w14.heap.size + 1, 0, none⟩) 2 2, .bool false, .int .i64 0]), none, none, none, none, some (.int .i64 0), none, some (.int .i64 0)] := ⟨_, rfl⟩
    have HVV := Lib.hid hV
    clear hV
    refine wp_region_V [some 52, some 53, some 54, some 55, some 51, some 56, some 57, some 12, some 13] (fun L w' xs => ValsAt V L xs ∧ (Below W15.heap.size W15 w' ∧ (L 0 = true → ∃ v : NamesV, xs 0 = v.agg ∧ IsNames w'.heap.size w' v exN) ∧ (L 2 = true → IsWishes w'.heap.size w' (xs 2) [exAg]) ∧ (L 3 = true → ∃ a c, xs 3 = .tuple #[.slice a 1 c, .int .i64 0] ∧ IsOrders w'.heap.size w' (.slice a 1 c) [exO2]) ∧ (L 4 = true → L 3 = true ∧ xs 4 = xs 3) ∧ (L 5 = true → L 3 = true ∧ ∃ y, xs 3 = .tuple #[xs 5, y]) ∧ (L 7 = true → L 3 = true ∧ ∃ y, xs 3 = .tuple #[xs 7, y]))) (by kernel_rfl) (by kernel_rfl) (by rfl) (by rfl) (by rfl) ?_ ?_ ?_
    focus
      exact fun xs => ⟨ValsAt.none _ _, (Below.refl _ _).drew, (fun h => by cases h), (fun h => by cases h), (fun h => by cases h), (fun h => by cases h), (fun h => by cases h), (fun h => by cases h)⟩
    focus
      refine ⟨?_, ?_, ?_, ?_, ?_, ?_, ?_, ?_, ?_, trivial⟩
      all_goals
        intro L a' w' xs hi hd hf hJ K hK
        obtain ⟨hv, hb, h0, h2, h3, h4, h5, h7⟩ := hJ
        have HF := Lib.hid hf
        have HVA := Lib.hid hv
        have HLI := Lib.hid hi
        clear hf hv hi
      focus
        clear hd
        obtain ⟨ρ, hρ⟩ : ∃ ρ, a'.eval = ρ := ⟨_, rfl⟩
        have hcst : ∀ v, ρ (.const v) = v := fun v => (congrFun hρ (.const v)).symm
        have hfun : ∀ k, ρ (.func k) = .func (.func k) #[] #[] := fun k => (congrFun hρ (.func k)).symm
        rw [if_pos (by simp [Region.wanted])]
        unfold Oper.wp
        rw [hρ]
        clear hρ
        have H0 := Lib.hid h0
        have H2 := Lib.hid h2
        have H3 := Lib.hid h3
        have H4 := Lib.hid h4
        have H5 := Lib.hid h5
        have H7 := Lib.hid h7
        clear h0 h2 h3 h4 h5 h7
        go_simp
        go_at_call 21
        refine (lawnames_any w').mono ?_
        rintro e w5 ⟨rfl, q1, q2, q3, q4, hb5⟩
        have HB5 := Lib.hid hb5
        have HN5 : Hid (IsNames w5.heap.size w5 (exV w'.heap.size) exN) := Lib.hid (exN_is q1 q2 q3 q4)
        clear q1 q2 q3 q4 hb5
        exact hK.out _ _ ⟨HVA.out.free (i := 0) (by rw [HVV.out]; rfl) _, hb.trans (HB5.out.mono hb.size), fun _ => ⟨_, updV_self _ _ _, HN5.out⟩, (fun h => by
            simp only [upd_ne (L := L) (show (2 : Nat) ≠ 0 by decide), upd_ne (L := L) (show (3 : Nat) ≠ 0 by decide), upd_ne (L := L) (show (4 : Nat) ≠ 0 by decide), upd_ne (L := L) (show (5 : Nat) ≠ 0 by decide), upd_ne (L := L) (show (7 : Nat) ≠ 0 by decide), updV_ne (xs := xs) (show (2 : Nat) ≠ 0 by decide), updV_ne (xs := xs) (show (3 : Nat) ≠ 0 by decide), updV_ne (xs := xs) (show (4 : Nat) ≠ 0 by decide), updV_ne (xs := xs) (show (5 : Nat) ≠ 0 by decide), updV_ne (xs := xs) (show (7 : Nat) ≠ 0 by decide)] at h ⊢
            exact (IsRecs.below wishK (H2.out h) HB5.out (Nat.le_refl _)).mono wishK HB5.out.size), (fun h => by
            simp only [upd_ne (L := L) (show (2 : Nat) ≠ 0 by decide), upd_ne (L := L) (show (3 : Nat) ≠ 0 by decide), upd_ne (L := L) (show (4 : Nat) ≠ 0 by decide), upd_ne (L := L) (show (5 : Nat) ≠ 0 by decide), upd_ne (L := L) (show (7 : Nat) ≠ 0 by decide), updV_ne (xs := xs) (show (2 : Nat) ≠ 0 by decide), updV_ne (xs := xs) (show (3 : Nat) ≠ 0 by decide), updV_ne (xs := xs) (show (4 : Nat) ≠ 0 by decide), updV_ne (xs := xs) (show (5 : Nat) ≠ 0 by decide), updV_ne (xs := xs) (show (7 : Nat) ≠ 0 by decide)] at h ⊢
            obtain ⟨a, c, e, hv⟩ := H3.out h
            exact ⟨a, c, e, (IsRecs.below orderK hv HB5.out (Nat.le_refl _)).mono orderK HB5.out.size⟩), (by simp only [upd_ne (L := L) (show (2 : Nat) ≠ 0 by decide), upd_ne (L := L) (show (3 : Nat) ≠ 0 by decide), upd_ne (L := L) (show (4 : Nat) ≠ 0 by decide), upd_ne (L := L) (show (5 : Nat) ≠ 0 by decide), upd_ne (L := L) (show (7 : Nat) ≠ 0 by decide), updV_ne (xs := xs) (show (2 : Nat) ≠ 0 by decide), updV_ne (xs := xs) (show (3 : Nat) ≠ 0 by decide), updV_ne (xs := xs) (show (4 : Nat) ≠ 0 by decide), updV_ne (xs := xs) (show (5 : Nat) ≠ 0 by decide), updV_ne (xs := xs) (show (7 : Nat) ≠ 0 by decide)]; exact H4.out), (by simp only [upd_ne (L := L) (show (2 : Nat) ≠ 0 by decide), upd_ne (L := L) (show (3 : Nat) ≠ 0 by decide), upd_ne (L := L) (show (4 : Nat) ≠ 0 by decide), upd_ne (L := L) (show (5 : Nat) ≠ 0 by decide), upd_ne (L := L) (show (7 : Nat) ≠ 0 by decide), updV_ne (xs := xs) (show (2 : Nat) ≠ 0 by decide), updV_ne (xs := xs) (show (3 : Nat) ≠ 0 by decide), updV_ne (xs := xs) (show (4 : Nat) ≠ 0 by decide), updV_ne (xs := xs) (show (5 : Nat) ≠ 0 by decide), updV_ne (xs := xs) (show (7 : Nat) ≠ 0 by decide)]; exact H5.out), (by simp only [upd_ne (L := L) (show (2 : Nat) ≠ 0 by decide), upd_ne (L := L) (show (3 : Nat) ≠ 0 by decide), upd_ne (L := L) (show (4 : Nat) ≠ 0 by decide), upd_ne (L := L) (show (5 : Nat) ≠ 0 by decide), upd_ne (L := L) (show (7 : Nat) ≠ 0 by decide), updV_ne (xs := xs) (show (2 : Nat) ≠ 0 by decide), updV_ne (xs := xs) (show (3 : Nat) ≠ 0 by decide), updV_ne (xs := xs) (show (4 : Nat) ≠ 0 by decide), updV_ne (xs := xs) (show (5 : Nat) ≠ 0 by decide), updV_ne (xs := xs) (show (7 : Nat) ≠ 0 by decide)]; exact H7.out)⟩
      focus
        clear hd
        obtain ⟨ρ, hρ⟩ : ∃ ρ, a'.eval = ρ := ⟨_, rfl⟩
        have hcst : ∀ v, ρ (.const v) = v := fun v => (congrFun hρ (.const v)).symm
        have l11 : ρ (.tmp 11) = .pointer (some ⟨w14.heap.size, 0, none⟩) := (congrFun hρ (.tmp 11)).symm.trans (HF.out.lo 11 rfl)
        rw [if_pos (by simp [Region.wanted])]
        unfold Oper.wp
        rw [hρ]
        clear hρ
        have H0 := Lib.hid h0
        have H2 := Lib.hid h2
        have H3 := Lib.hid h3
        have H4 := Lib.hid h4
        have H5 := Lib.hid h5
        have H7 := Lib.hid h7
        clear h0 h2 h3 h4 h5 h7
        have k0 := HKL.out _ hb 0
        have k1 := HKL.out _ hb 1
        have k2 := HKL.out _ hb 2
        have k3 := HKL.out _ hb 3
        have k4 := HKL.out _ hb 4
        have k5 := HKL.out _ hb 5
        have k6 := HKL.out _ hb 6
        have k7 := HKL.out _ hb 7
        have k8 := HKL.out _ hb 8
        have k9 := HKL.out _ hb 9
        have k10 := HKL.out _ hb 10
        simp at k0 k1 k2 k3 k4 k5 k6 k7 k8 k9 k10
        go_simp
        exact hK.out _ _ ⟨HVA.out.set (i := 1) (by rw [HVV.out]; rfl), hb, (by simp only [upd_ne (L := L) (show (0 : Nat) ≠ 1 by decide), upd_ne (L := L) (show (2 : Nat) ≠ 1 by decide), upd_ne (L := L) (show (3 : Nat) ≠ 1 by decide), upd_ne (L := L) (show (4 : Nat) ≠ 1 by decide), upd_ne (L := L) (show (5 : Nat) ≠ 1 by decide), upd_ne (L := L) (show (7 : Nat) ≠ 1 by decide), updV_ne (xs := xs) (show (0 : Nat) ≠ 1 by decide), updV_ne (xs := xs) (show (2 : Nat) ≠ 1 by decide), updV_ne (xs := xs) (show (3 : Nat) ≠ 1 by decide), updV_ne (xs := xs) (show (4 : Nat) ≠ 1 by decide), updV_ne (xs := xs) (show (5 : Nat) ≠ 1 by decide), updV_ne (xs := xs) (show (7 : Nat) ≠ 1 by decide)]; exact H0.out), (by simp only [upd_ne (L := L) (show (0 : Nat) ≠ 1 by decide), upd_ne (L := L) (show (2 : Nat) ≠ 1 by decide), upd_ne (L := L) (show (3 : Nat) ≠ 1 by decide), upd_ne (L := L) (show (4 : Nat) ≠ 1 by decide), upd_ne (L := L) (show (5 : Nat) ≠ 1 by decide), upd_ne (L := L) (show (7 : Nat) ≠ 1 by decide), updV_ne (xs := xs) (show (0 : Nat) ≠ 1 by decide), updV_ne (xs := xs) (show (2 : Nat) ≠ 1 by decide), updV_ne (xs := xs) (show (3 : Nat) ≠ 1 by decide), updV_ne (xs := xs) (show (4 : Nat) ≠ 1 by decide), updV_ne (xs := xs) (show (5 : Nat) ≠ 1 by decide), updV_ne (xs := xs) (show (7 : Nat) ≠ 1 by decide)]; exact H2.out), (by simp only [upd_ne (L := L) (show (0 : Nat) ≠ 1 by decide), upd_ne (L := L) (show (2 : Nat) ≠ 1 by decide), upd_ne (L := L) (show (3 : Nat) ≠ 1 by decide), upd_ne (L := L) (show (4 : Nat) ≠ 1 by decide), upd_ne (L := L) (show (5 : Nat) ≠ 1 by decide), upd_ne (L := L) (show (7 : Nat) ≠ 1 by decide), updV_ne (xs := xs) (show (0 : Nat) ≠ 1 by decide), updV_ne (xs := xs) (show (2 : Nat) ≠ 1 by decide), updV_ne (xs := xs) (show (3 : Nat) ≠ 1 by decide), updV_ne (xs := xs) (show (4 : Nat) ≠ 1 by decide), updV_ne (xs := xs) (show (5 : Nat) ≠ 1 by decide), updV_ne (xs := xs) (show (7 : Nat) ≠ 1 by decide)]; exact H3.out), (by simp only [upd_ne (L := L) (show (0 : Nat) ≠ 1 by decide), upd_ne (L := L) (show (2 : Nat) ≠ 1 by decide), upd_ne (L := L) (show (3 : Nat) ≠ 1 by decide), upd_ne (L := L) (show (4 : Nat) ≠ 1 by decide), upd_ne (L := L) (show (5 : Nat) ≠ 1 by decide), upd_ne (L := L) (show (7 : Nat) ≠ 1 by decide), updV_ne (xs := xs) (show (0 : Nat) ≠ 1 by decide), updV_ne (xs := xs) (show (2 : Nat) ≠ 1 by decide), updV_ne (xs := xs) (show (3 : Nat) ≠ 1 by decide), updV_ne (xs := xs) (show (4 : Nat) ≠ 1 by decide), updV_ne (xs := xs) (show (5 : Nat) ≠ 1 by decide), updV_ne (xs := xs) (show (7 : Nat) ≠ 1 by decide)]; exact H4.out), (by simp only [upd_ne (L := L) (show (0 : Nat) ≠ 1 by decide), upd_ne (L := L) (show (2 : Nat) ≠ 1 by decide), upd_ne (L := L) (show (3 : Nat) ≠ 1 by decide), upd_ne (L := L) (show (4 : Nat) ≠ 1 by decide), upd_ne (L := L) (show (5 : Nat) ≠ 1 by decide), upd_ne (L := L) (show (7 : Nat) ≠ 1 by decide), updV_ne (xs := xs) (show (0 : Nat) ≠ 1 by decide), updV_ne (xs := xs) (show (2 : Nat) ≠ 1 by decide), updV_ne (xs := xs) (show (3 : Nat) ≠ 1 by decide), updV_ne (xs := xs) (show (4 : Nat) ≠ 1 by decide), updV_ne (xs := xs) (show (5 : Nat) ≠ 1 by decide), updV_ne (xs := xs) (show (7 : Nat) ≠ 1 by decide)]; exact H5.out), (by simp only [upd_ne (L := L) (show (0 : Nat) ≠ 1 by decide), upd_ne (L := L) (show (2 : Nat) ≠ 1 by decide), upd_ne (L := L) (show (3 : Nat) ≠ 1 by decide), upd_ne (L := L) (show (4 : Nat) ≠ 1 by decide), upd_ne (L := L) (show (5 : Nat) ≠ 1 by decide), upd_ne (L := L) (show (7 : Nat) ≠ 1 by decide), updV_ne (xs := xs) (show (0 : Nat) ≠ 1 by decide), updV_ne (xs := xs) (show (2 : Nat) ≠ 1 by decide), updV_ne (xs := xs) (show (3 : Nat) ≠ 1 by decide), updV_ne (xs := xs) (show (4 : Nat) ≠ 1 by decide), updV_ne (xs := xs) (show (5 : Nat) ≠ 1 by decide), updV_ne (xs := xs) (show (7 : Nat) ≠ 1 by decide)]; exact H7.out)⟩
      focus
        obtain ⟨d1, _⟩ := hd
        obtain ⟨ρ, hρ⟩ : ∃ ρ, a'.eval = ρ := ⟨_, rfl⟩
        have hcst : ∀ v, ρ (.const v) = v := fun v => (congrFun hρ (.const v)).symm
        have v1 : ρ (.tmp 53) = .agg #[strV [98], strV [120], strV [98, 111], strV [115, 108, 111, 119], .int .i64 0, .int .i64 9, .int .i64 2, .int .i64 7, .slice (some ⟨w14.heap.size + 1, 0, none⟩) 2 2, .bool false, .int .i64 0] := (congrFun hρ (.tmp 53)).symm.trans ((HF.out.ev 1 rfl d1).trans (HVA.out 1 _ (by rw [HVV.out]; rfl) d1))
        rw [if_pos (by simp [Region.wanted])]
        unfold Oper.wp
        rw [hρ]
        clear hρ
        have H0 := Lib.hid h0
        have H2 := Lib.hid h2
        have H3 := Lib.hid h3
        have H4 := Lib.hid h4
        have H5 := Lib.hid h5
        have H7 := Lib.hid h7
        clear h0 h2 h3 h4 h5 h7
        have HB5 := Lib.hid (box_below' w' (.cells (wishC (.slice (some ⟨w14.heap.size + 1, 0, none⟩) 2 2) exAg).toArray 41))
        have HW5 := Lib.hid (wish1 (w := w') (va := .slice (some ⟨w14.heap.size + 1, 0, none⟩) 2 2) (x := exAg) (t := 41) (((IsRecs.below strK HSA.out (hb.trans (HB5.out.mono hb.size)) (Nat.le_refl _)).mono strK (by have := hb.size; omega))) exAg_ok)
        go_simp
        exact hK.out _ _ ⟨HVA.out.free (i := 2) (by rw [HVV.out]; rfl) _, hb.trans (HB5.out.mono hb.size), (fun h => by
            simp only [upd_ne (L := L) (show (0 : Nat) ≠ 2 by decide), upd_ne (L := L) (show (3 : Nat) ≠ 2 by decide), upd_ne (L := L) (show (4 : Nat) ≠ 2 by decide), upd_ne (L := L) (show (5 : Nat) ≠ 2 by decide), upd_ne (L := L) (show (7 : Nat) ≠ 2 by decide), updV_ne (xs := xs) (show (0 : Nat) ≠ 2 by decide), updV_ne (xs := xs) (show (3 : Nat) ≠ 2 by decide), updV_ne (xs := xs) (show (4 : Nat) ≠ 2 by decide), updV_ne (xs := xs) (show (5 : Nat) ≠ 2 by decide), updV_ne (xs := xs) (show (7 : Nat) ≠ 2 by decide)] at h ⊢
            obtain ⟨v, e, hv⟩ := H0.out h
            exact ⟨v, e, (hv.below HB5.out (Nat.le_refl _)).mono HB5.out.size⟩), fun _ => by rw [updV_self]; exact HW5.out.mono wishK (by simp), (fun h => by
            simp only [upd_ne (L := L) (show (0 : Nat) ≠ 2 by decide), upd_ne (L := L) (show (3 : Nat) ≠ 2 by decide), upd_ne (L := L) (show (4 : Nat) ≠ 2 by decide), upd_ne (L := L) (show (5 : Nat) ≠ 2 by decide), upd_ne (L := L) (show (7 : Nat) ≠ 2 by decide), updV_ne (xs := xs) (show (0 : Nat) ≠ 2 by decide), updV_ne (xs := xs) (show (3 : Nat) ≠ 2 by decide), updV_ne (xs := xs) (show (4 : Nat) ≠ 2 by decide), updV_ne (xs := xs) (show (5 : Nat) ≠ 2 by decide), updV_ne (xs := xs) (show (7 : Nat) ≠ 2 by decide)] at h ⊢
            obtain ⟨a, c, e, hv⟩ := H3.out h
            exact ⟨a, c, e, (IsRecs.below orderK hv HB5.out (Nat.le_refl _)).mono orderK HB5.out.size⟩), (by simp only [upd_ne (L := L) (show (0 : Nat) ≠ 2 by decide), upd_ne (L := L) (show (3 : Nat) ≠ 2 by decide), upd_ne (L := L) (show (4 : Nat) ≠ 2 by decide), upd_ne (L := L) (show (5 : Nat) ≠ 2 by decide), upd_ne (L := L) (show (7 : Nat) ≠ 2 by decide), updV_ne (xs := xs) (show (0 : Nat) ≠ 2 by decide), updV_ne (xs := xs) (show (3 : Nat) ≠ 2 by decide), updV_ne (xs := xs) (show (4 : Nat) ≠ 2 by decide), updV_ne (xs := xs) (show (5 : Nat) ≠ 2 by decide), updV_ne (xs := xs) (show (7 : Nat) ≠ 2 by decide)]; exact H4.out), (by simp only [upd_ne (L := L) (show (0 : Nat) ≠ 2 by decide), upd_ne (L := L) (show (3 : Nat) ≠ 2 by decide), upd_ne (L := L) (show (4 : Nat) ≠ 2 by decide), upd_ne (L := L) (show (5 : Nat) ≠ 2 by decide), upd_ne (L := L) (show (7 : Nat) ≠ 2 by decide), updV_ne (xs := xs) (show (0 : Nat) ≠ 2 by decide), updV_ne (xs := xs) (show (3 : Nat) ≠ 2 by decide), updV_ne (xs := xs) (show (4 : Nat) ≠ 2 by decide), updV_ne (xs := xs) (show (5 : Nat) ≠ 2 by decide), updV_ne (xs := xs) (show (7 : Nat) ≠ 2 by decide)]; exact H5.out), (by simp only [upd_ne (L := L) (show (0 : Nat) ≠ 2 by decide), upd_ne (L := L) (show (3 : Nat) ≠ 2 by decide), upd_ne (L := L) (show (4 : Nat) ≠ 2 by decide), upd_ne (L := L) (show (5 : Nat) ≠ 2 by decide), upd_ne (L := L) (show (7 : Nat) ≠ 2 by decide), updV_ne (xs := xs) (show (0 : Nat) ≠ 2 by decide), updV_ne (xs := xs) (show (3 : Nat) ≠ 2 by decide), updV_ne (xs := xs) (show (4 : Nat) ≠ 2 by decide), updV_ne (xs := xs) (show (5 : Nat) ≠ 2 by decide), updV_ne (xs := xs) (show (7 : Nat) ≠ 2 by decide)]; exact H7.out)⟩
      focus
        obtain ⟨d0, d2, _, _⟩ := hd
        obtain ⟨ρ, hρ⟩ : ∃ ρ, a'.eval = ρ := ⟨_, rfl⟩
        have hcst : ∀ v, ρ (.const v) = v := fun v => (congrFun hρ (.const v)).symm
        have hfun : ∀ k, ρ (.func k) = .func (.func k) #[] #[] := fun k => (congrFun hρ (.func k)).symm
        have v0 : ρ (.tmp 52) = xs 0 := (congrFun hρ (.tmp 52)).symm.trans (HF.out.ev 0 rfl d0)
        have v2 : ρ (.tmp 54) = xs 2 := (congrFun hρ (.tmp 54)).symm.trans (HF.out.ev 2 rfl d2)
        rw [if_pos (by simp [Region.wanted])]
        unfold Oper.wp
        rw [hρ]
        clear hρ
        have H0 := Lib.hid h0
        have H2 := Lib.hid h2
        have H3 := Lib.hid h3
        have H4 := Lib.hid h4
        have H5 := Lib.hid h5
        have H7 := Lib.hid h7
        clear h0 h2 h3 h4 h5 h7
        obtain ⟨v, e0, hv⟩ := H0.out d0
        have hwi := H2.out d2
        rw [e0] at v0
        have HNV := Lib.hid hv
        have HWI := Lib.hid hwi
        have E0 := Lib.hid e0
        clear hv hwi e0
        go_simp
        go_at_call 12
        refine (res_law w' w' v exN (xs 2) [exAg] 0 [exO2] (Below.refl _ _) HNV.out exN_small HWI.out (hag1 (by decide)) ex5.1 ex5.2).mono ?_
        rintro e w5 ⟨a5, c5, rfl, ho5, hb5⟩
        have HB5 := Lib.hid hb5
        have HO5 := Lib.hid ho5
        clear hb5 ho5
        exact hK.out _ _ ⟨HVA.out.free (i := 3) (by rw [HVV.out]; rfl) _, hb.trans (HB5.out.mono hb.size), (fun h => by
            simp only [upd_ne (L := L) (show (0 : Nat) ≠ 3 by decide), upd_ne (L := L) (show (2 : Nat) ≠ 3 by decide), upd_ne (L := L) (show (4 : Nat) ≠ 3 by decide), upd_ne (L := L) (show (5 : Nat) ≠ 3 by decide), upd_ne (L := L) (show (7 : Nat) ≠ 3 by decide), updV_ne (xs := xs) (show (0 : Nat) ≠ 3 by decide), updV_ne (xs := xs) (show (2 : Nat) ≠ 3 by decide), updV_ne (xs := xs) (show (4 : Nat) ≠ 3 by decide), updV_ne (xs := xs) (show (5 : Nat) ≠ 3 by decide), updV_ne (xs := xs) (show (7 : Nat) ≠ 3 by decide)] at h ⊢
            obtain ⟨v, e, hv⟩ := H0.out h
            exact ⟨v, e, (hv.below HB5.out (Nat.le_refl _)).mono HB5.out.size⟩), (fun h => by
            simp only [upd_ne (L := L) (show (0 : Nat) ≠ 3 by decide), upd_ne (L := L) (show (2 : Nat) ≠ 3 by decide), upd_ne (L := L) (show (4 : Nat) ≠ 3 by decide), upd_ne (L := L) (show (5 : Nat) ≠ 3 by decide), upd_ne (L := L) (show (7 : Nat) ≠ 3 by decide), updV_ne (xs := xs) (show (0 : Nat) ≠ 3 by decide), updV_ne (xs := xs) (show (2 : Nat) ≠ 3 by decide), updV_ne (xs := xs) (show (4 : Nat) ≠ 3 by decide), updV_ne (xs := xs) (show (5 : Nat) ≠ 3 by decide), updV_ne (xs := xs) (show (7 : Nat) ≠ 3 by decide)] at h ⊢
            exact (IsRecs.below wishK (H2.out h) HB5.out (Nat.le_refl _)).mono wishK HB5.out.size), fun _ => ⟨a5, c5, updV_self _ _ _, HO5.out⟩, (fun h => by simp only [upd_ne (L := L) (show (4 : Nat) ≠ 3 by decide)] at h; have := (H4.out h).1; rw [HLI.out] at this; cases this), (fun h => by simp only [upd_ne (L := L) (show (5 : Nat) ≠ 3 by decide)] at h; have := (H5.out h).1; rw [HLI.out] at this; cases this), (fun h => by simp only [upd_ne (L := L) (show (7 : Nat) ≠ 3 by decide)] at h; have := (H7.out h).1; rw [HLI.out] at this; cases this)⟩
      focus
        obtain ⟨d3, _⟩ := hd
        obtain ⟨ρ, hρ⟩ : ∃ ρ, a'.eval = ρ := ⟨_, rfl⟩
        have hcst : ∀ v, ρ (.const v) = v := fun v => (congrFun hρ (.const v)).symm
        have v3 : ρ (.tmp 55) = xs 3 := (congrFun hρ (.tmp 55)).symm.trans (HF.out.ev 3 rfl d3)
        rw [if_pos (by simp [Region.wanted])]
        unfold Oper.wp
        rw [hρ]
        clear hρ
        have H0 := Lib.hid h0
        have H2 := Lib.hid h2
        have H3 := Lib.hid h3
        have H4 := Lib.hid h4
        have H5 := Lib.hid h5
        have H7 := Lib.hid h7
        clear h0 h2 h3 h4 h5 h7
        go_simp
        exact hK.out _ _ ⟨HVA.out.free (i := 4) (by rw [HVV.out]; rfl) _, hb, (by simp only [upd_ne (L := L) (show (0 : Nat) ≠ 4 by decide), upd_ne (L := L) (show (2 : Nat) ≠ 4 by decide), upd_ne (L := L) (show (3 : Nat) ≠ 4 by decide), upd_ne (L := L) (show (5 : Nat) ≠ 4 by decide), upd_ne (L := L) (show (7 : Nat) ≠ 4 by decide), updV_ne (xs := xs) (show (0 : Nat) ≠ 4 by decide), updV_ne (xs := xs) (show (2 : Nat) ≠ 4 by decide), updV_ne (xs := xs) (show (3 : Nat) ≠ 4 by decide), updV_ne (xs := xs) (show (5 : Nat) ≠ 4 by decide), updV_ne (xs := xs) (show (7 : Nat) ≠ 4 by decide)]; exact H0.out), (by simp only [upd_ne (L := L) (show (0 : Nat) ≠ 4 by decide), upd_ne (L := L) (show (2 : Nat) ≠ 4 by decide), upd_ne (L := L) (show (3 : Nat) ≠ 4 by decide), upd_ne (L := L) (show (5 : Nat) ≠ 4 by decide), upd_ne (L := L) (show (7 : Nat) ≠ 4 by decide), updV_ne (xs := xs) (show (0 : Nat) ≠ 4 by decide), updV_ne (xs := xs) (show (2 : Nat) ≠ 4 by decide), updV_ne (xs := xs) (show (3 : Nat) ≠ 4 by decide), updV_ne (xs := xs) (show (5 : Nat) ≠ 4 by decide), updV_ne (xs := xs) (show (7 : Nat) ≠ 4 by decide)]; exact H2.out), (by simp only [upd_ne (L := L) (show (0 : Nat) ≠ 4 by decide), upd_ne (L := L) (show (2 : Nat) ≠ 4 by decide), upd_ne (L := L) (show (3 : Nat) ≠ 4 by decide), upd_ne (L := L) (show (5 : Nat) ≠ 4 by decide), upd_ne (L := L) (show (7 : Nat) ≠ 4 by decide), updV_ne (xs := xs) (show (0 : Nat) ≠ 4 by decide), updV_ne (xs := xs) (show (2 : Nat) ≠ 4 by decide), updV_ne (xs := xs) (show (3 : Nat) ≠ 4 by decide), updV_ne (xs := xs) (show (5 : Nat) ≠ 4 by decide), updV_ne (xs := xs) (show (7 : Nat) ≠ 4 by decide)]; exact H3.out), (fun _ => by simp only [upd_ne (L := L) (show (0 : Nat) ≠ 4 by decide), upd_ne (L := L) (show (2 : Nat) ≠ 4 by decide), upd_ne (L := L) (show (3 : Nat) ≠ 4 by decide), upd_ne (L := L) (show (5 : Nat) ≠ 4 by decide), upd_ne (L := L) (show (7 : Nat) ≠ 4 by decide), updV_ne (xs := xs) (show (0 : Nat) ≠ 4 by decide), updV_ne (xs := xs) (show (2 : Nat) ≠ 4 by decide), updV_ne (xs := xs) (show (3 : Nat) ≠ 4 by decide), updV_ne (xs := xs) (show (5 : Nat) ≠ 4 by decide), updV_ne (xs := xs) (show (7 : Nat) ≠ 4 by decide), updV_self]; first | exact ⟨d3, rfl⟩ | exact ⟨d3, trivial⟩), (by simp only [upd_ne (L := L) (show (0 : Nat) ≠ 4 by decide), upd_ne (L := L) (show (2 : Nat) ≠ 4 by decide), upd_ne (L := L) (show (3 : Nat) ≠ 4 by decide), upd_ne (L := L) (show (5 : Nat) ≠ 4 by decide), upd_ne (L := L) (show (7 : Nat) ≠ 4 by decide), updV_ne (xs := xs) (show (0 : Nat) ≠ 4 by decide), updV_ne (xs := xs) (show (2 : Nat) ≠ 4 by decide), updV_ne (xs := xs) (show (3 : Nat) ≠ 4 by decide), updV_ne (xs := xs) (show (5 : Nat) ≠ 4 by decide), updV_ne (xs := xs) (show (7 : Nat) ≠ 4 by decide)]; exact H5.out), (by simp only [upd_ne (L := L) (show (0 : Nat) ≠ 4 by decide), upd_ne (L := L) (show (2 : Nat) ≠ 4 by decide), upd_ne (L := L) (show (3 : Nat) ≠ 4 by decide), upd_ne (L := L) (show (5 : Nat) ≠ 4 by decide), upd_ne (L := L) (show (7 : Nat) ≠ 4 by decide), updV_ne (xs := xs) (show (0 : Nat) ≠ 4 by decide), updV_ne (xs := xs) (show (2 : Nat) ≠ 4 by decide), updV_ne (xs := xs) (show (3 : Nat) ≠ 4 by decide), updV_ne (xs := xs) (show (5 : Nat) ≠ 4 by decide), updV_ne (xs := xs) (show (7 : Nat) ≠ 4 by decide)]; exact H7.out)⟩
      focus
        obtain ⟨d4, _⟩ := hd
        obtain ⟨ρ, hρ⟩ : ∃ ρ, a'.eval = ρ := ⟨_, rfl⟩
        have hcst : ∀ v, ρ (.const v) = v := fun v => (congrFun hρ (.const v)).symm
        have v4 : ρ (.tmp 51) = xs 4 := (congrFun hρ (.tmp 51)).symm.trans (HF.out.ev 4 rfl d4)
        rw [if_pos (by simp [Region.wanted])]
        unfold Oper.wp
        rw [hρ]
        clear hρ
        have H0 := Lib.hid h0
        have H2 := Lib.hid h2
        have H3 := Lib.hid h3
        have H4 := Lib.hid h4
        have H5 := Lib.hid h5
        have H7 := Lib.hid h7
        clear h0 h2 h3 h4 h5 h7
        obtain ⟨h3, e4⟩ := H4.out d4
        obtain ⟨a5, c5, e3, _⟩ := H3.out h3
        rw [e4, e3] at v4
        have H33 := Lib.hid h3
        have E3 := Lib.hid e3
        clear h3 e3 e4
        go_simp
        exact hK.out _ _ ⟨HVA.out.free (i := 5) (by rw [HVV.out]; rfl) _, hb, (by simp only [upd_ne (L := L) (show (0 : Nat) ≠ 5 by decide), upd_ne (L := L) (show (2 : Nat) ≠ 5 by decide), upd_ne (L := L) (show (3 : Nat) ≠ 5 by decide), upd_ne (L := L) (show (4 : Nat) ≠ 5 by decide), upd_ne (L := L) (show (7 : Nat) ≠ 5 by decide), updV_ne (xs := xs) (show (0 : Nat) ≠ 5 by decide), updV_ne (xs := xs) (show (2 : Nat) ≠ 5 by decide), updV_ne (xs := xs) (show (3 : Nat) ≠ 5 by decide), updV_ne (xs := xs) (show (4 : Nat) ≠ 5 by decide), updV_ne (xs := xs) (show (7 : Nat) ≠ 5 by decide)]; exact H0.out), (by simp only [upd_ne (L := L) (show (0 : Nat) ≠ 5 by decide), upd_ne (L := L) (show (2 : Nat) ≠ 5 by decide), upd_ne (L := L) (show (3 : Nat) ≠ 5 by decide), upd_ne (L := L) (show (4 : Nat) ≠ 5 by decide), upd_ne (L := L) (show (7 : Nat) ≠ 5 by decide), updV_ne (xs := xs) (show (0 : Nat) ≠ 5 by decide), updV_ne (xs := xs) (show (2 : Nat) ≠ 5 by decide), updV_ne (xs := xs) (show (3 : Nat) ≠ 5 by decide), updV_ne (xs := xs) (show (4 : Nat) ≠ 5 by decide), updV_ne (xs := xs) (show (7 : Nat) ≠ 5 by decide)]; exact H2.out), (by simp only [upd_ne (L := L) (show (0 : Nat) ≠ 5 by decide), upd_ne (L := L) (show (2 : Nat) ≠ 5 by decide), upd_ne (L := L) (show (3 : Nat) ≠ 5 by decide), upd_ne (L := L) (show (4 : Nat) ≠ 5 by decide), upd_ne (L := L) (show (7 : Nat) ≠ 5 by decide), updV_ne (xs := xs) (show (0 : Nat) ≠ 5 by decide), updV_ne (xs := xs) (show (2 : Nat) ≠ 5 by decide), updV_ne (xs := xs) (show (3 : Nat) ≠ 5 by decide), updV_ne (xs := xs) (show (4 : Nat) ≠ 5 by decide), updV_ne (xs := xs) (show (7 : Nat) ≠ 5 by decide)]; exact H3.out), (by simp only [upd_ne (L := L) (show (0 : Nat) ≠ 5 by decide), upd_ne (L := L) (show (2 : Nat) ≠ 5 by decide), upd_ne (L := L) (show (3 : Nat) ≠ 5 by decide), upd_ne (L := L) (show (4 : Nat) ≠ 5 by decide), upd_ne (L := L) (show (7 : Nat) ≠ 5 by decide), updV_ne (xs := xs) (show (0 : Nat) ≠ 5 by decide), updV_ne (xs := xs) (show (2 : Nat) ≠ 5 by decide), updV_ne (xs := xs) (show (3 : Nat) ≠ 5 by decide), updV_ne (xs := xs) (show (4 : Nat) ≠ 5 by decide), updV_ne (xs := xs) (show (7 : Nat) ≠ 5 by decide)]; exact H4.out), (fun _ => by simp only [upd_ne (L := L) (show (0 : Nat) ≠ 5 by decide), upd_ne (L := L) (show (2 : Nat) ≠ 5 by decide), upd_ne (L := L) (show (3 : Nat) ≠ 5 by decide), upd_ne (L := L) (show (4 : Nat) ≠ 5 by decide), upd_ne (L := L) (show (7 : Nat) ≠ 5 by decide), updV_ne (xs := xs) (show (0 : Nat) ≠ 5 by decide), updV_ne (xs := xs) (show (2 : Nat) ≠ 5 by decide), updV_ne (xs := xs) (show (3 : Nat) ≠ 5 by decide), updV_ne (xs := xs) (show (4 : Nat) ≠ 5 by decide), updV_ne (xs := xs) (show (7 : Nat) ≠ 5 by decide), updV_self]; exact ⟨H33.out, _, E3.out⟩), (by simp only [upd_ne (L := L) (show (0 : Nat) ≠ 5 by decide), upd_ne (L := L) (show (2 : Nat) ≠ 5 by decide), upd_ne (L := L) (show (3 : Nat) ≠ 5 by decide), upd_ne (L := L) (show (4 : Nat) ≠ 5 by decide), upd_ne (L := L) (show (7 : Nat) ≠ 5 by decide), updV_ne (xs := xs) (show (0 : Nat) ≠ 5 by decide), updV_ne (xs := xs) (show (2 : Nat) ≠ 5 by decide), updV_ne (xs := xs) (show (3 : Nat) ≠ 5 by decide), updV_ne (xs := xs) (show (4 : Nat) ≠ 5 by decide), updV_ne (xs := xs) (show (7 : Nat) ≠ 5 by decide)]; exact H7.out)⟩
      focus
        obtain ⟨d4, _⟩ := hd
        obtain ⟨ρ, hρ⟩ : ∃ ρ, a'.eval = ρ := ⟨_, rfl⟩
        have hcst : ∀ v, ρ (.const v) = v := fun v => (congrFun hρ (.const v)).symm
        have v4 : ρ (.tmp 51) = xs 4 := (congrFun hρ (.tmp 51)).symm.trans (HF.out.ev 4 rfl d4)
        rw [if_pos (by simp [Region.wanted])]
        unfold Oper.wp
        rw [hρ]
        clear hρ
        have H0 := Lib.hid h0
        have H2 := Lib.hid h2
        have H3 := Lib.hid h3
        have H4 := Lib.hid h4
        have H5 := Lib.hid h5
        have H7 := Lib.hid h7
        clear h0 h2 h3 h4 h5 h7
        obtain ⟨h3, e4⟩ := H4.out d4
        obtain ⟨a5, c5, e3, _⟩ := H3.out h3
        rw [e4, e3] at v4
        have H33 := Lib.hid h3
        have E3 := Lib.hid e3
        clear h3 e3 e4
        go_simp
        exact hK.out _ _ ⟨HVA.out.set (i := 6) (by rw [HVV.out]; rfl), hb, (by simp only [upd_ne (L := L) (show (0 : Nat) ≠ 6 by decide), upd_ne (L := L) (show (2 : Nat) ≠ 6 by decide), upd_ne (L := L) (show (3 : Nat) ≠ 6 by decide), upd_ne (L := L) (show (4 : Nat) ≠ 6 by decide), upd_ne (L := L) (show (5 : Nat) ≠ 6 by decide), upd_ne (L := L) (show (7 : Nat) ≠ 6 by decide), updV_ne (xs := xs) (show (0 : Nat) ≠ 6 by decide), updV_ne (xs := xs) (show (2 : Nat) ≠ 6 by decide), updV_ne (xs := xs) (show (3 : Nat) ≠ 6 by decide), updV_ne (xs := xs) (show (4 : Nat) ≠ 6 by decide), updV_ne (xs := xs) (show (5 : Nat) ≠ 6 by decide), updV_ne (xs := xs) (show (7 : Nat) ≠ 6 by decide)]; exact H0.out), (by simp only [upd_ne (L := L) (show (0 : Nat) ≠ 6 by decide), upd_ne (L := L) (show (2 : Nat) ≠ 6 by decide), upd_ne (L := L) (show (3 : Nat) ≠ 6 by decide), upd_ne (L := L) (show (4 : Nat) ≠ 6 by decide), upd_ne (L := L) (show (5 : Nat) ≠ 6 by decide), upd_ne (L := L) (show (7 : Nat) ≠ 6 by decide), updV_ne (xs := xs) (show (0 : Nat) ≠ 6 by decide), updV_ne (xs := xs) (show (2 : Nat) ≠ 6 by decide), updV_ne (xs := xs) (show (3 : Nat) ≠ 6 by decide), updV_ne (xs := xs) (show (4 : Nat) ≠ 6 by decide), updV_ne (xs := xs) (show (5 : Nat) ≠ 6 by decide), updV_ne (xs := xs) (show (7 : Nat) ≠ 6 by decide)]; exact H2.out), (by simp only [upd_ne (L := L) (show (0 : Nat) ≠ 6 by decide), upd_ne (L := L) (show (2 : Nat) ≠ 6 by decide), upd_ne (L := L) (show (3 : Nat) ≠ 6 by decide), upd_ne (L := L) (show (4 : Nat) ≠ 6 by decide), upd_ne (L := L) (show (5 : Nat) ≠ 6 by decide), upd_ne (L := L) (show (7 : Nat) ≠ 6 by decide), updV_ne (xs := xs) (show (0 : Nat) ≠ 6 by decide), updV_ne (xs := xs) (show (2 : Nat) ≠ 6 by decide), updV_ne (xs := xs) (show (3 : Nat) ≠ 6 by decide), updV_ne (xs := xs) (show (4 : Nat) ≠ 6 by decide), updV_ne (xs := xs) (show (5 : Nat) ≠ 6 by decide), updV_ne (xs := xs) (show (7 : Nat) ≠ 6 by decide)]; exact H3.out), (by simp only [upd_ne (L := L) (show (0 : Nat) ≠ 6 by decide), upd_ne (L := L) (show (2 : Nat) ≠ 6 by decide), upd_ne (L := L) (show (3 : Nat) ≠ 6 by decide), upd_ne (L := L) (show (4 : Nat) ≠ 6 by decide), upd_ne (L := L) (show (5 : Nat) ≠ 6 by decide), upd_ne (L := L) (show (7 : Nat) ≠ 6 by decide), updV_ne (xs := xs) (show (0 : Nat) ≠ 6 by decide), updV_ne (xs := xs) (show (2 : Nat) ≠ 6 by decide), updV_ne (xs := xs) (show (3 : Nat) ≠ 6 by decide), updV_ne (xs := xs) (show (4 : Nat) ≠ 6 by decide), updV_ne (xs := xs) (show (5 : Nat) ≠ 6 by decide), updV_ne (xs := xs) (show (7 : Nat) ≠ 6 by decide)]; exact H4.out), (by simp only [upd_ne (L := L) (show (0 : Nat) ≠ 6 by decide), upd_ne (L := L) (show (2 : Nat) ≠ 6 by decide), upd_ne (L := L) (show (3 : Nat) ≠ 6 by decide), upd_ne (L := L) (show (4 : Nat) ≠ 6 by decide), upd_ne (L := L) (show (5 : Nat) ≠ 6 by decide), upd_ne (L := L) (show (7 : Nat) ≠ 6 by decide), updV_ne (xs := xs) (show (0 : Nat) ≠ 6 by decide), updV_ne (xs := xs) (show (2 : Nat) ≠ 6 by decide), updV_ne (xs := xs) (show (3 : Nat) ≠ 6 by decide), updV_ne (xs := xs) (show (4 : Nat) ≠ 6 by decide), updV_ne (xs := xs) (show (5 : Nat) ≠ 6 by decide), updV_ne (xs := xs) (show (7 : Nat) ≠ 6 by decide)]; exact H5.out), (by simp only [upd_ne (L := L) (show (0 : Nat) ≠ 6 by decide), upd_ne (L := L) (show (2 : Nat) ≠ 6 by decide), upd_ne (L := L) (show (3 : Nat) ≠ 6 by decide), upd_ne (L := L) (show (4 : Nat) ≠ 6 by decide), upd_ne (L := L) (show (5 : Nat) ≠ 6 by decide), upd_ne (L := L) (show (7 : Nat) ≠ 6 by decide), updV_ne (xs := xs) (show (0 : Nat) ≠ 6 by decide), updV_ne (xs := xs) (show (2 : Nat) ≠ 6 by decide), updV_ne (xs := xs) (show (3 : Nat) ≠ 6 by decide), updV_ne (xs := xs) (show (4 : Nat) ≠ 6 by decide), updV_ne (xs := xs) (show (5 : Nat) ≠ 6 by decide), updV_ne (xs := xs) (show (7 : Nat) ≠ 6 by decide)]; exact H7.out)⟩
      focus
        obtain ⟨d5, d3, d0, d1, d2, _, d4, _, _⟩ := hd
        obtain ⟨ρ, hρ⟩ : ∃ ρ, a'.eval = ρ := ⟨_, rfl⟩
        have hcst : ∀ v, ρ (.const v) = v := fun v => (congrFun hρ (.const v)).symm
        have v5 : ρ (.tmp 56) = xs 5 := (congrFun hρ (.tmp 56)).symm.trans (HF.out.ev 5 rfl d5)
        rw [if_pos (by simp [Region.wanted])]
        unfold Oper.wp
        rw [hρ]
        clear hρ
        have H0 := Lib.hid h0
        have H2 := Lib.hid h2
        have H3 := Lib.hid h3
        have H4 := Lib.hid h4
        have H5 := Lib.hid h5
        have H7 := Lib.hid h7
        clear h0 h2 h3 h4 h5 h7
        obtain ⟨h3, y, e3⟩ := H5.out d5
        have H33 := Lib.hid h3
        have E3 := Lib.hid e3
        clear h3 e3
        go_simp
        exact hK.out _ _ ⟨HVA.out.free (i := 7) (by rw [HVV.out]; rfl) _, hb, (by simp only [upd_ne (L := L) (show (0 : Nat) ≠ 7 by decide), upd_ne (L := L) (show (2 : Nat) ≠ 7 by decide), upd_ne (L := L) (show (3 : Nat) ≠ 7 by decide), upd_ne (L := L) (show (4 : Nat) ≠ 7 by decide), upd_ne (L := L) (show (5 : Nat) ≠ 7 by decide), updV_ne (xs := xs) (show (0 : Nat) ≠ 7 by decide), updV_ne (xs := xs) (show (2 : Nat) ≠ 7 by decide), updV_ne (xs := xs) (show (3 : Nat) ≠ 7 by decide), updV_ne (xs := xs) (show (4 : Nat) ≠ 7 by decide), updV_ne (xs := xs) (show (5 : Nat) ≠ 7 by decide)]; exact H0.out), (by simp only [upd_ne (L := L) (show (0 : Nat) ≠ 7 by decide), upd_ne (L := L) (show (2 : Nat) ≠ 7 by decide), upd_ne (L := L) (show (3 : Nat) ≠ 7 by decide), upd_ne (L := L) (show (4 : Nat) ≠ 7 by decide), upd_ne (L := L) (show (5 : Nat) ≠ 7 by decide), updV_ne (xs := xs) (show (0 : Nat) ≠ 7 by decide), updV_ne (xs := xs) (show (2 : Nat) ≠ 7 by decide), updV_ne (xs := xs) (show (3 : Nat) ≠ 7 by decide), updV_ne (xs := xs) (show (4 : Nat) ≠ 7 by decide), updV_ne (xs := xs) (show (5 : Nat) ≠ 7 by decide)]; exact H2.out), (by simp only [upd_ne (L := L) (show (0 : Nat) ≠ 7 by decide), upd_ne (L := L) (show (2 : Nat) ≠ 7 by decide), upd_ne (L := L) (show (3 : Nat) ≠ 7 by decide), upd_ne (L := L) (show (4 : Nat) ≠ 7 by decide), upd_ne (L := L) (show (5 : Nat) ≠ 7 by decide), updV_ne (xs := xs) (show (0 : Nat) ≠ 7 by decide), updV_ne (xs := xs) (show (2 : Nat) ≠ 7 by decide), updV_ne (xs := xs) (show (3 : Nat) ≠ 7 by decide), updV_ne (xs := xs) (show (4 : Nat) ≠ 7 by decide), updV_ne (xs := xs) (show (5 : Nat) ≠ 7 by decide)]; exact H3.out), (by simp only [upd_ne (L := L) (show (0 : Nat) ≠ 7 by decide), upd_ne (L := L) (show (2 : Nat) ≠ 7 by decide), upd_ne (L := L) (show (3 : Nat) ≠ 7 by decide), upd_ne (L := L) (show (4 : Nat) ≠ 7 by decide), upd_ne (L := L) (show (5 : Nat) ≠ 7 by decide), updV_ne (xs := xs) (show (0 : Nat) ≠ 7 by decide), updV_ne (xs := xs) (show (2 : Nat) ≠ 7 by decide), updV_ne (xs := xs) (show (3 : Nat) ≠ 7 by decide), updV_ne (xs := xs) (show (4 : Nat) ≠ 7 by decide), updV_ne (xs := xs) (show (5 : Nat) ≠ 7 by decide)]; exact H4.out), (by simp only [upd_ne (L := L) (show (0 : Nat) ≠ 7 by decide), upd_ne (L := L) (show (2 : Nat) ≠ 7 by decide), upd_ne (L := L) (show (3 : Nat) ≠ 7 by decide), upd_ne (L := L) (show (4 : Nat) ≠ 7 by decide), upd_ne (L := L) (show (5 : Nat) ≠ 7 by decide), updV_ne (xs := xs) (show (0 : Nat) ≠ 7 by decide), updV_ne (xs := xs) (show (2 : Nat) ≠ 7 by decide), updV_ne (xs := xs) (show (3 : Nat) ≠ 7 by decide), updV_ne (xs := xs) (show (4 : Nat) ≠ 7 by decide), updV_ne (xs := xs) (show (5 : Nat) ≠ 7 by decide)]; exact H5.out), (fun _ => by simp only [upd_ne (L := L) (show (0 : Nat) ≠ 7 by decide), upd_ne (L := L) (show (2 : Nat) ≠ 7 by decide), upd_ne (L := L) (show (3 : Nat) ≠ 7 by decide), upd_ne (L := L) (show (4 : Nat) ≠ 7 by decide), upd_ne (L := L) (show (5 : Nat) ≠ 7 by decide), updV_ne (xs := xs) (show (0 : Nat) ≠ 7 by decide), updV_ne (xs := xs) (show (2 : Nat) ≠ 7 by decide), updV_ne (xs := xs) (show (3 : Nat) ≠ 7 by decide), updV_ne (xs := xs) (show (4 : Nat) ≠ 7 by decide), updV_ne (xs := xs) (show (5 : Nat) ≠ 7 by decide), updV_self]; exact ⟨H33.out, _, E3.out⟩)⟩
      focus
        obtain ⟨d6, d7, d0, d1, d2, d3, d4, d5, _, _, _⟩ := hd
        obtain ⟨ρ, hρ⟩ : ∃ ρ, a'.eval = ρ := ⟨_, rfl⟩
        have hcst : ∀ v, ρ (.const v) = v := fun v => (congrFun hρ (.const v)).symm
        have v6 : ρ (.tmp 57) = .int .i64 0 := (congrFun hρ (.tmp 57)).symm.trans ((HF.out.ev 6 rfl d6).trans (HVA.out 6 _ (by rw [HVV.out]; rfl) d6))
        rw [if_pos (by simp [Region.wanted])]
        unfold Oper.wp
        rw [hρ]
        clear hρ
        have H0 := Lib.hid h0
        have H2 := Lib.hid h2
        have H3 := Lib.hid h3
        have H4 := Lib.hid h4
        have H5 := Lib.hid h5
        have H7 := Lib.hid h7
        clear h0 h2 h3 h4 h5 h7
        go_simp
        exact hK.out _ _ ⟨HVA.out.set (i := 8) (by rw [HVV.out]; rfl), hb, (by simp only [upd_ne (L := L) (show (0 : Nat) ≠ 8 by decide), upd_ne (L := L) (show (2 : Nat) ≠ 8 by decide), upd_ne (L := L) (show (3 : Nat) ≠ 8 by decide), upd_ne (L := L) (show (4 : Nat) ≠ 8 by decide), upd_ne (L := L) (show (5 : Nat) ≠ 8 by decide), upd_ne (L := L) (show (7 : Nat) ≠ 8 by decide), updV_ne (xs := xs) (show (0 : Nat) ≠ 8 by decide), updV_ne (xs := xs) (show (2 : Nat) ≠ 8 by decide), updV_ne (xs := xs) (show (3 : Nat) ≠ 8 by decide), updV_ne (xs := xs) (show (4 : Nat) ≠ 8 by decide), updV_ne (xs := xs) (show (5 : Nat) ≠ 8 by decide), updV_ne (xs := xs) (show (7 : Nat) ≠ 8 by decide)]; exact H0.out), (by simp only [upd_ne (L := L) (show (0 : Nat) ≠ 8 by decide), upd_ne (L := L) (show (2 : Nat) ≠ 8 by decide), upd_ne (L := L) (show (3 : Nat) ≠ 8 by decide), upd_ne (L := L) (show (4 : Nat) ≠ 8 by decide), upd_ne (L := L) (show (5 : Nat) ≠ 8 by decide), upd_ne (L := L) (show (7 : Nat) ≠ 8 by decide), updV_ne (xs := xs) (show (0 : Nat) ≠ 8 by decide), updV_ne (xs := xs) (show (2 : Nat) ≠ 8 by decide), updV_ne (xs := xs) (show (3 : Nat) ≠ 8 by decide), updV_ne (xs := xs) (show (4 : Nat) ≠ 8 by decide), updV_ne (xs := xs) (show (5 : Nat) ≠ 8 by decide), updV_ne (xs := xs) (show (7 : Nat) ≠ 8 by decide)]; exact H2.out), (by simp only [upd_ne (L := L) (show (0 : Nat) ≠ 8 by decide), upd_ne (L := L) (show (2 : Nat) ≠ 8 by decide), upd_ne (L := L) (show (3 : Nat) ≠ 8 by decide), upd_ne (L := L) (show (4 : Nat) ≠ 8 by decide), upd_ne (L := L) (show (5 : Nat) ≠ 8 by decide), upd_ne (L := L) (show (7 : Nat) ≠ 8 by decide), updV_ne (xs := xs) (show (0 : Nat) ≠ 8 by decide), updV_ne (xs := xs) (show (2 : Nat) ≠ 8 by decide), updV_ne (xs := xs) (show (3 : Nat) ≠ 8 by decide), updV_ne (xs := xs) (show (4 : Nat) ≠ 8 by decide), updV_ne (xs := xs) (show (5 : Nat) ≠ 8 by decide), updV_ne (xs := xs) (show (7 : Nat) ≠ 8 by decide)]; exact H3.out), (by simp only [upd_ne (L := L) (show (0 : Nat) ≠ 8 by decide), upd_ne (L := L) (show (2 : Nat) ≠ 8 by decide), upd_ne (L := L) (show (3 : Nat) ≠ 8 by decide), upd_ne (L := L) (show (4 : Nat) ≠ 8 by decide), upd_ne (L := L) (show (5 : Nat) ≠ 8 by decide), upd_ne (L := L) (show (7 : Nat) ≠ 8 by decide), updV_ne (xs := xs) (show (0 : Nat) ≠ 8 by decide), updV_ne (xs := xs) (show (2 : Nat) ≠ 8 by decide), updV_ne (xs := xs) (show (3 : Nat) ≠ 8 by decide), updV_ne (xs := xs) (show (4 : Nat) ≠ 8 by decide), updV_ne (xs := xs) (show (5 : Nat) ≠ 8 by decide), updV_ne (xs := xs) (show (7 : Nat) ≠ 8 by decide)]; exact H4.out), (by simp only [upd_ne (L := L) (show (0 : Nat) ≠ 8 by decide), upd_ne (L := L) (show (2 : Nat) ≠ 8 by decide), upd_ne (L := L) (show (3 : Nat) ≠ 8 by decide), upd_ne (L := L) (show (4 : Nat) ≠ 8 by decide), upd_ne (L := L) (show (5 : Nat) ≠ 8 by decide), upd_ne (L := L) (show (7 : Nat) ≠ 8 by decide), updV_ne (xs := xs) (show (0 : Nat) ≠ 8 by decide), updV_ne (xs := xs) (show (2 : Nat) ≠ 8 by decide), updV_ne (xs := xs) (show (3 : Nat) ≠ 8 by decide), updV_ne (xs := xs) (show (4 : Nat) ≠ 8 by decide), updV_ne (xs := xs) (show (5 : Nat) ≠ 8 by decide), updV_ne (xs := xs) (show (7 : Nat) ≠ 8 by decide)]; exact H5.out), (by simp only [upd_ne (L := L) (show (0 : Nat) ≠ 8 by decide), upd_ne (L := L) (show (2 : Nat) ≠ 8 by decide), upd_ne (L := L) (show (3 : Nat) ≠ 8 by decide), upd_ne (L := L) (show (4 : Nat) ≠ 8 by decide), upd_ne (L := L) (show (5 : Nat) ≠ 8 by decide), upd_ne (L := L) (show (7 : Nat) ≠ 8 by decide), updV_ne (xs := xs) (show (0 : Nat) ≠ 8 by decide), updV_ne (xs := xs) (show (2 : Nat) ≠ 8 by decide), updV_ne (xs := xs) (show (3 : Nat) ≠ 8 by decide), updV_ne (xs := xs) (show (4 : Nat) ≠ 8 by decide), updV_ne (xs := xs) (show (5 : Nat) ≠ 8 by decide), updV_ne (xs := xs) (show (7 : Nat) ≠ 8 by decide)]; exact H7.out)⟩
    focus
      intro L w' xs hL hJ
      obtain ⟨hv, hb, h0, h2, h3, h4, h5, h7⟩ := hJ
      have e1 : xs 1 = .agg #[strV [98], strV [120], strV [98, 111], strV [115, 108, 111, 119], .int .i64 0, .int .i64 9, .int .i64 2, .int .i64 7, .slice (some ⟨w14.heap.size + 1, 0, none⟩) 2 2, .bool false, .int .i64 0] := hv 1 _ (by rw [HVV.out]; rfl) (hL 1 (by decide))
      have e6 : xs 6 = .int .i64 0 := hv 6 _ (by rw [HVV.out]; rfl) (hL 6 (by decide))
      have e8 : xs 8 = .int .i64 0 := hv 8 _ (by rw [HVV.out]; rfl) (hL 8 (by decide))
      simp only [putGo, Act.put, List.setIfInBounds_toArray, List.set_cons_zero, List.set_cons_succ, e1, e6, e8]
      clear hv e1 e6 e8
      obtain ⟨aw16, cw16, e3, ho⟩ := h3 (hL 3 (by decide))
      obtain ⟨_, y, e7⟩ := h7 (hL 7 (by decide))
      rw [e3] at e7
      have e7' : xs 7 = .slice aw16 1 cw16 := by injection e7 with e7; simp at e7; exact e7.1.symm
      rw [e7']
      have HBw16 : Hid (Below W15.heap.size W15 w') := Lib.hid hb
      have HOw16 := Lib.hid ho
      clear hb h0 h2 h3 h4 h5 h7 ho e3 e7 e7' hL HKL
      obtain ⟨w16, rfl⟩ : ∃ W, W = w' := ⟨_, rfl⟩
      go_wp2_with fail
      refine (lawnames_any w16).mono ?_
      rintro e w17 ⟨rfl, q1, q2, q3, q4, hb⟩
      have HBw17 : Hid (Below w16.heap.size w16 w17) := Lib.hid hb
      have HCw17 := Lib.hid (And.intro q1 (And.intro q2 (And.intro q3 q4)))
      have HNw17 : Hid (IsNames w17.heap.size w17 (exV w16.heap.size) exN) := Lib.hid (exN_is q1 q2 q3 q4)
      clear q1 q2 q3 q4 hb
      obtain ⟨W18, hW18⟩ : ∃ W, w17.alloc (.cells #[.slice (some ⟨w16.heap.size + 1, 0, none⟩) 2 2, .slice (some ⟨w16.heap.size + 1 + 1, 0, none⟩) 1 1, .slice (some ⟨w16.heap.size + 1 + 1 + 1, 0, none⟩) 1 1, .slice (some ⟨w16.heap.size + 1 + 1 + 1 + 1, 0, none⟩) 1 1] 25) = W := ⟨_, rfl⟩
      have HB18 : Hid (Below w17.heap.size w17 W18) := Lib.hid (by rw [← hW18]; exact box_below' _ _)
      have HK18 : Hid (Box W18 w17.heap.size #[.slice (some ⟨w16.heap.size + 1, 0, none⟩) 2 2, .slice (some ⟨w16.heap.size + 1 + 1, 0, none⟩) 1 1, .slice (some ⟨w16.heap.size + 1 + 1 + 1, 0, none⟩) 1 1, .slice (some ⟨w16.heap.size + 1 + 1 + 1 + 1, 0, none⟩) 1 1]) := Lib.hid (by rw [← hW18]; exact Box.new _ _ _)
      have HC18 : Hid (CellsN W18 (w16.heap.size + 1) #[strV [120], strV [121]] ∧ CellsN W18 (w16.heap.size + 1 + 1) #[strV [98, 111]] ∧ CellsN W18 (w16.heap.size + 1 + 1 + 1) #[strV [115, 108, 111, 119]] ∧ CellsN W18 (w16.heap.size + 1 + 1 + 1 + 1) #[.int .i64 1]) := Lib.hid (by
        obtain ⟨q1, q2, q3, q4⟩ := HCw17.out
        exact ⟨q1.ext HB18.out, q2.ext HB18.out, q3.ext HB18.out, q4.ext HB18.out⟩)
      obtain ⟨W19, hW19⟩ : ∃ W, W18.setCell ⟨w16.heap.size + 1, 1, none⟩ (strV [120]) = W := ⟨_, rfl⟩
      have HG19 : Hid (W18.grownBy W19 (some (w16.heap.size + 1))) := Lib.hid (by rw [← hW19]; exact grown_setCell _ _ _)
      have HN19 : Hid (IsNames W19.heap.size W19 (exV w16.heap.size) exN2) := Lib.hid (by
        obtain ⟨q1, q2, q3, q4⟩ := HC18.out
        have q1' := q1.set 1 (strV [120])
        simp only [List.setIfInBounds_toArray, List.set_cons_zero, List.set_cons_succ] at q1'
        rw [hW19] at q1'
        exact exN2_is q1' (q2.grown HG19.out (fun e => by injection e with e; omega)) (q3.grown HG19.out (fun e => by injection e with e; omega)) (q4.grown HG19.out (fun e => by injection e with e; omega)))
      have hlt17 : w16.heap.size + 1 < w17.heap.size := HCw17.out.1.lt
      have HK19 : Hid (Box W19 w17.heap.size #[.slice (some ⟨w16.heap.size + 1, 0, none⟩) 2 2, .slice (some ⟨w16.heap.size + 1 + 1, 0, none⟩) 1 1, .slice (some ⟨w16.heap.size + 1 + 1 + 1, 0, none⟩) 1 1, .slice (some ⟨w16.heap.size + 1 + 1 + 1 + 1, 0, none⟩) 1 1]) := Lib.hid (HK18.out.grown HG19.out (by simp; omega))
      have hb4_16 := (((((((((Below.refl w4.heap.size w4).trans (HBw6.out.mono (Below.refl w4.heap.size w4).size)).trans (HBw10.out.mono ((Below.refl w4.heap.size w4).trans (HBw6.out.mono (Below.refl w4.heap.size w4).size)).size)).trans (HBw11.out.mono (((Below.refl w4.heap.size w4).trans (HBw6.out.mono (Below.refl w4.heap.size w4).size)).trans (HBw10.out.mono ((Below.refl w4.heap.size w4).trans (HBw6.out.mono (Below.refl w4.heap.size w4).size)).size)).size)).trans (HB12.out.mono ((((Below.refl w4.heap.size w4).trans (HBw6.out.mono (Below.refl w4.heap.size w4).size)).trans (HBw10.out.mono ((Below.refl w4.heap.size w4).trans (HBw6.out.mono (Below.refl w4.heap.size w4).size)).size)).trans (HBw11.out.mono (((Below.refl w4.heap.size w4).trans (HBw6.out.mono (Below.refl w4.heap.size w4).size)).trans (HBw10.out.mono ((Below.refl w4.heap.size w4).trans (HBw6.out.mono (Below.refl w4.heap.size w4).size)).size)).size)).size)).trans (HBw13.out.mono (((((Below.refl w4.heap.size w4).trans (HBw6.out.mono (Below.refl w4.heap.size w4).size)).trans (HBw10.out.mono ((Below.refl w4.heap.size w4).trans (HBw6.out.mono (Below.refl w4.heap.size w4).size)).size)).trans (HBw11.out.mono (((Below.refl w4.heap.size w4).trans (HBw6.out.mono (Below.refl w4.heap.size w4).size)).trans (HBw10.out.mono ((Below.refl w4.heap.size w4).trans (HBw6.out.mono (Below.refl w4.heap.size w4).size)).size)).size)).trans (HB12.out.mono ((((Below.refl w4.heap.size w4).trans (HBw6.out.mono (Below.refl w4.heap.size w4).size)).trans (HBw10.out.mono ((Below.refl w4.heap.size w4).trans (HBw6.out.mono (Below.refl w4.heap.size w4).size)).size)).trans (HBw11.out.mono (((Below.refl w4.heap.size w4).trans (HBw6.out.mono (Below.refl w4.heap.size w4).size)).trans (HBw10.out.mono ((Below.refl w4.heap.size w4).trans (HBw6.out.mono (Below.refl w4.heap.size w4).size)).size)).size)).size)).size)).trans (HBw14.out.mono ((((((Below.refl w4.heap.size w4).trans (HBw6.out.mono (Below.refl w4.heap.size w4).size)).trans (HBw10.out.mono ((Below.refl w4.heap.size w4).trans (HBw6.out.mono (Below.refl w4.heap.size w4).size)).size)).trans (HBw11.out.mono (((Below.refl w4.heap.size w4).trans (HBw6.out.mono (Below.refl w4.heap.size w4).size)).trans (HBw10.out.mono ((Below.refl w4.heap.size w4).trans (HBw6.out.mono (Below.refl w4.heap.size w4).size)).size)).size)).trans (HB12.out.mono ((((Below.refl w4.heap.size w4).trans (HBw6.out.mono (Below.refl w4.heap.size w4).size)).trans (HBw10.out.mono ((Below.refl w4.heap.size w4).trans (HBw6.out.mono (Below.refl w4.heap.size w4).size)).size)).trans (HBw11.out.mono (((Below.refl w4.heap.size w4).trans (HBw6.out.mono (Below.refl w4.heap.size w4).size)).trans (HBw10.out.mono ((Below.refl w4.heap.size w4).trans (HBw6.out.mono (Below.refl w4.heap.size w4).size)).size)).size)).size)).trans (HBw13.out.mono (((((Below.refl w4.heap.size w4).trans (HBw6.out.mono (Below.refl w4.heap.size w4).size)).trans (HBw10.out.mono ((Below.refl w4.heap.size w4).trans (HBw6.out.mono (Below.refl w4.heap.size w4).size)).size)).trans (HBw11.out.mono (((Below.refl w4.heap.size w4).trans (HBw6.out.mono (Below.refl w4.heap.size w4).size)).trans (HBw10.out.mono ((Below.refl w4.heap.size w4).trans (HBw6.out.mono (Below.refl w4.heap.size w4).size)).size)).size)).trans (HB12.out.mono ((((Below.refl w4.heap.size w4).trans (HBw6.out.mono (Below.refl w4.heap.size w4).size)).trans (HBw10.out.mono ((Below.refl w4.heap.size w4).trans (HBw6.out.mono (Below.refl w4.heap.size w4).size)).size)).trans (HBw11.out.mono (((Below.refl w4.heap.size w4).trans (HBw6.out.mono (Below.refl w4.heap.size w4).size)).trans (HBw10.out.mono ((Below.refl w4.heap.size w4).trans (HBw6.out.mono (Below.refl w4.heap.size w4).size)).size)).size)).size)).size)).size)).trans (HB15.out.mono (((((((Below.refl w4.heap.size w4).trans (HBw6.out.mono (Below.refl w4.heap.size w4).size)).trans (HBw10.out.mono ((Below.refl w4.heap.size w4).trans (HBw6.out.mono (Below.refl w4.heap.size w4).size)).size)).trans (HBw11.out.mono (((Below.refl w4.heap.size w4).trans (HBw6.out.mono (Below.refl w4.heap.size w4).size)).trans (HBw10.out.mono ((Below.refl w4.heap.size w4).trans (HBw6.out.mono (Below.refl w4.heap.size w4).size)).size)).size)).trans (HB12.out.mono ((((Below.refl w4.heap.size w4).trans (HBw6.out.mono (Below.refl w4.heap.size w4).size)).trans (HBw10.out.mono ((Below.refl w4.heap.size w4).trans (HBw6.out.mono (Below.refl w4.heap.size w4).size)).size)).trans (HBw11.out.mono (((Below.refl w4.heap.size w4).trans (HBw6.out.mono (Below.refl w4.heap.size w4).size)).trans (HBw10.out.mono ((Below.refl w4.heap.size w4).trans (HBw6.out.mono (Below.refl w4.heap.size w4).size)).size)).size)).size)).trans (HBw13.out.mono (((((Below.refl w4.heap.size w4).trans (HBw6.out.mono (Below.refl w4.heap.size w4).size)).trans (HBw10.out.mono ((Below.refl w4.heap.size w4).trans (HBw6.out.mono (Below.refl w4.heap.size w4).size)).size)).trans (HBw11.out.mono (((Below.refl w4.heap.size w4).trans (HBw6.out.mono (Below.refl w4.heap.size w4).size)).trans (HBw10.out.mono ((Below.refl w4.heap.size w4).trans (HBw6.out.mono (Below.refl w4.heap.size w4).size)).size)).size)).trans (HB12.out.mono ((((Below.refl w4.heap.size w4).trans (HBw6.out.mono (Below.refl w4.heap.size w4).size)).trans (HBw10.out.mono ((Below.refl w4.heap.size w4).trans (HBw6.out.mono (Below.refl w4.heap.size w4).size)).size)).trans (HBw11.out.mono (((Below.refl w4.heap.size w4).trans (HBw6.out.mono (Below.refl w4.heap.size w4).size)).trans (HBw10.out.mono ((Below.refl w4.heap.size w4).trans (HBw6.out.mono (Below.refl w4.heap.size w4).size)).size)).size)).size)).size)).trans (HBw14.out.mono ((((((Below.refl w4.heap.size w4).trans (HBw6.out.mono (Below.refl w4.heap.size w4).size)).trans (HBw10.out.mono ((Below.refl w4.heap.size w4).trans (HBw6.out.mono (Below.refl w4.heap.size w4).size)).size)).trans (HBw11.out.mono (((Below.refl w4.heap.size w4).trans (HBw6.out.mono (Below.refl w4.heap.size w4).size)).trans (HBw10.out.mono ((Below.refl w4.heap.size w4).trans (HBw6.out.mono (Below.refl w4.heap.size w4).size)).size)).size)).trans (HB12.out.mono ((((Below.refl w4.heap.size w4).trans (HBw6.out.mono (Below.refl w4.heap.size w4).size)).trans (HBw10.out.mono ((Below.refl w4.heap.size w4).trans (HBw6.out.mono (Below.refl w4.heap.size w4).size)).size)).trans (HBw11.out.mono (((Below.refl w4.heap.size w4).trans (HBw6.out.mono (Below.refl w4.heap.size w4).size)).trans (HBw10.out.mono ((Below.refl w4.heap.size w4).trans (HBw6.out.mono (Below.refl w4.heap.size w4).size)).size)).size)).size)).trans (HBw13.out.mono (((((Below.refl w4.heap.size w4).trans (HBw6.out.mono (Below.refl w4.heap.size w4).size)).trans (HBw10.out.mono ((Below.refl w4.heap.size w4).trans (HBw6.out.mono (Below.refl w4.heap.size w4).size)).size)).trans (HBw11.out.mono (((Below.refl w4.heap.size w4).trans (HBw6.out.mono (Below.refl w4.heap.size w4).size)).trans (HBw10.out.mono ((Below.refl w4.heap.size w4).trans (HBw6.out.mono (Below.refl w4.heap.size w4).size)).size)).size)).trans (HB12.out.mono ((((Below.refl w4.heap.size w4).trans (HBw6.out.mono (Below.refl w4.heap.size w4).size)).trans (HBw10.out.mono ((Below.refl w4.heap.size w4).trans (HBw6.out.mono (Below.refl w4.heap.size w4).size)).size)).trans (HBw11.out.mono (((Below.refl w4.heap.size w4).trans (HBw6.out.mono (Below.refl w4.heap.size w4).size)).trans (HBw10.out.mono ((Below.refl w4.heap.size w4).trans (HBw6.out.mono (Below.refl w4.heap.size w4).size)).size)).size)).size)).size)).size)).size)).trans (HBw16.out.mono ((((((((Below.refl w4.heap.size w4).trans (HBw6.out.mono (Below.refl w4.heap.size w4).size)).trans (HBw10.out.mono ((Below.refl w4.heap.size w4).trans (HBw6.out.mono (Below.refl w4.heap.size w4).size)).size)).trans (HBw11.out.mono (((Below.refl w4.heap.size w4).trans (HBw6.out.mono (Below.refl w4.heap.size w4).size)).trans (HBw10.out.mono ((Below.refl w4.heap.size w4).trans (HBw6.out.mono (Below.refl w4.heap.size w4).size)).size)).size)).trans (HB12.out.mono ((((Below.refl w4.heap.size w4).trans (HBw6.out.mono (Below.refl w4.heap.size w4).size)).trans (HBw10.out.mono ((Below.refl w4.heap.size w4).trans (HBw6.out.mono (Below.refl w4.heap.size w4).size)).size)).trans (HBw11.out.mono (((Below.refl w4.heap.size w4).trans (HBw6.out.mono (Below.refl w4.heap.size w4).size)).trans (HBw10.out.mono ((Below.refl w4.heap.size w4).trans (HBw6.out.mono (Below.refl w4.heap.size w4).size)).size)).size)).size)).trans (HBw13.out.mono (((((Below.refl w4.heap.size w4).trans (HBw6.out.mono (Below.refl w4.heap.size w4).size)).trans (HBw10.out.mono ((Below.refl w4.heap.size w4).trans (HBw6.out.mono (Below.refl w4.heap.size w4).size)).size)).trans (HBw11.out.mono (((Below.refl w4.heap.size w4).trans (HBw6.out.mono (Below.refl w4.heap.size w4).size)).trans (HBw10.out.mono ((Below.refl w4.heap.size w4).trans (HBw6.out.mono (Below.refl w4.heap.size w4).size)).size)).size)).trans (HB12.out.mono ((((Below.refl w4.heap.size w4).trans (HBw6.out.mono (Below.refl w4.heap.size w4).size)).trans (HBw10.out.mono ((Below.refl w4.heap.size w4).trans (HBw6.out.mono (Below.refl w4.heap.size w4).size)).size)).trans (HBw11.out.mono (((Below.refl w4.heap.size w4).trans (HBw6.out.mono (Below.refl w4.heap.size w4).size)).trans (HBw10.out.mono ((Below.refl w4.heap.size w4).trans (HBw6.out.mono (Below.refl w4.heap.size w4).size)).size)).size)).size)).size)).trans (HBw14.out.mono ((((((Below.refl w4.heap.size w4).trans (HBw6.out.mono (Below.refl w4.heap.size w4).size)).trans (HBw10.out.mono ((Below.refl w4.heap.size w4).trans (HBw6.out.mono (Below.refl w4.heap.size w4).size)).size)).trans (HBw11.out.mono (((Below.refl w4.heap.size w4).trans (HBw6.out.mono (Below.refl w4.heap.size w4).size)).trans (HBw10.out.mono ((Below.refl w4.heap.size w4).trans (HBw6.out.mono (Below.refl w4.heap.size w4).size)).size)).size)).trans (HB12.out.mono ((((Below.refl w4.heap.size w4).trans (HBw6.out.mono (Below.refl w4.heap.size w4).size)).trans (HBw10.out.mono ((Below.refl w4.heap.size w4).trans (HBw6.out.mono (Below.refl w4.heap.size w4).size)).size)).trans (HBw11.out.mono (((Below.refl w4.heap.size w4).trans (HBw6.out.mono (Below.refl w4.heap.size w4).size)).trans (HBw10.out.mono ((Below.refl w4.heap.size w4).trans (HBw6.out.mono (Below.refl w4.heap.size w4).size)).size)).size)).size)).trans (HBw13.out.mono (((((Below.refl w4.heap.size w4).trans (HBw6.out.mono (Below.refl w4.heap.size w4).size)).trans (HBw10.out.mono ((Below.refl w4.heap.size w4).trans (HBw6.out.mono (Below.refl w4.heap.size w4).size)).size)).trans (HBw11.out.mono (((Below.refl w4.heap.size w4).trans (HBw6.out.mono (Below.refl w4.heap.size w4).size)).trans (HBw10.out.mono ((Below.refl w4.heap.size w4).trans (HBw6.out.mono (Below.refl w4.heap.size w4).size)).size)).size)).trans (HB12.out.mono ((((Below.refl w4.heap.size w4).trans (HBw6.out.mono (Below.refl w4.heap.size w4).size)).trans (HBw10.out.mono ((Below.refl w4.heap.size w4).trans (HBw6.out.mono (Below.refl w4.heap.size w4).size)).size)).trans (HBw11.out.mono (((Below.refl w4.heap.size w4).trans (HBw6.out.mono (Below.refl w4.heap.size w4).size)).trans (HBw10.out.mono ((Below.refl w4.heap.size w4).trans (HBw6.out.mono (Below.refl w4.heap.size w4).size)).size)).size)).size)).size)).size)).trans (HB15.out.mono (((((((Below.refl w4.heap.size w4).trans (HBw6.out.mono (Below.refl w4.heap.size w4).size)).trans (HBw10.out.mono ((Below.refl w4.heap.size w4).trans (HBw6.out.mono (Below.refl w4.heap.size w4).size)).size)).trans (HBw11.out.mono (((Below.refl w4.heap.size w4).trans (HBw6.out.mono (Below.refl w4.heap.size w4).size)).trans (HBw10.out.mono ((Below.refl w4.heap.size w4).trans (HBw6.out.mono (Below.refl w4.heap.size w4).size)).size)).size)).trans (HB12.out.mono ((((Below.refl w4.heap.size w4).trans (HBw6.out.mono (Below.refl w4.heap.size w4).size)).trans (HBw10.out.mono ((Below.refl w4.heap.size w4).trans (HBw6.out.mono (Below.refl w4.heap.size w4).size)).size)).trans (HBw11.out.mono (((Below.refl w4.heap.size w4).trans (HBw6.out.mono (Below.refl w4.heap.size w4).size)).trans (HBw10.out.mono ((Below.refl w4.heap.size w4).trans (HBw6.out.mono (Below.refl w4.heap.size w4).size)).size)).size)).size)).trans (HBw13.out.mono (((((Below.refl w4.heap.size w4).trans (HBw6.out.mono (Below.refl w4.heap.size w4).size)).trans (HBw10.out.mono ((Below.refl w4.heap.size w4).trans (HBw6.out.mono (Below.refl w4.heap.size w4).size)).size)).trans (HBw11.out.mono (((Below.refl w4.heap.size w4).trans (HBw6.out.mono (Below.refl w4.heap.size w4).size)).trans (HBw10.out.mono ((Below.refl w4.heap.size w4).trans (HBw6.out.mono (Below.refl w4.heap.size w4).size)).size)).size)).trans (HB12.out.mono ((((Below.refl w4.heap.size w4).trans (HBw6.out.mono (Below.refl w4.heap.size w4).size)).trans (HBw10.out.mono ((Below.refl w4.heap.size w4).trans (HBw6.out.mono (Below.refl w4.heap.size w4).size)).size)).trans (HBw11.out.mono (((Below.refl w4.heap.size w4).trans (HBw6.out.mono (Below.refl w4.heap.size w4).size)).trans (HBw10.out.mono ((Below.refl w4.heap.size w4).trans (HBw6.out.mono (Below.refl w4.heap.size w4).size)).size)).size)).size)).size)).trans (HBw14.out.mono ((((((Below.refl w4.heap.size w4).trans (HBw6.out.mono (Below.refl w4.heap.size w4).size)).trans (HBw10.out.mono ((Below.refl w4.heap.size w4).trans (HBw6.out.mono (Below.refl w4.heap.size w4).size)).size)).trans (HBw11.out.mono (((Below.refl w4.heap.size w4).trans (HBw6.out.mono (Below.refl w4.heap.size w4).size)).trans (HBw10.out.mono ((Below.refl w4.heap.size w4).trans (HBw6.out.mono (Below.refl w4.heap.size w4).size)).size)).size)).trans (HB12.out.mono ((((Below.refl w4.heap.size w4).trans (HBw6.out.mono (Below.refl w4.heap.size w4).size)).trans (HBw10.out.mono ((Below.refl w4.heap.size w4).trans (HBw6.out.mono (Below.refl w4.heap.size w4).size)).size)).trans (HBw11.out.mono (((Below.refl w4.heap.size w4).trans (HBw6.out.mono (Below.refl w4.heap.size w4).size)).trans (HBw10.out.mono ((Below.refl w4.heap.size w4).trans (HBw6.out.mono (Below.refl w4.heap.size w4).size)).size)).size)).size)).trans (HBw13.out.mono (((((Below.refl w4.heap.size w4).trans (HBw6.out.mono (Below.refl w4.heap.size w4).size)).trans (HBw10.out.mono ((Below.refl w4.heap.size w4).trans (HBw6.out.mono (Below.refl w4.heap.size w4).size)).size)).trans (HBw11.out.mono (((Below.refl w4.heap.size w4).trans (HBw6.out.mono (Below.refl w4.heap.size w4).size)).trans (HBw10.out.mono ((Below.refl w4.heap.size w4).trans (HBw6.out.mono (Below.refl w4.heap.size w4).size)).size)).size)).trans (HB12.out.mono ((((Below.refl w4.heap.size w4).trans (HBw6.out.mono (Below.refl w4.heap.size w4).size)).trans (HBw10.out.mono ((Below.refl w4.heap.size w4).trans (HBw6.out.mono (Below.refl w4.heap.size w4).size)).size)).trans (HBw11.out.mono (((Below.refl w4.heap.size w4).trans (HBw6.out.mono (Below.refl w4.heap.size w4).size)).trans (HBw10.out.mono ((Below.refl w4.heap.size w4).trans (HBw6.out.mono (Below.refl w4.heap.size w4).size)).size)).size)).size)).size)).size)).size)).size))
      have hb16_18 := (((Below.refl w16.heap.size w16).trans (HBw17.out.mono (Below.refl w16.heap.size w16).size)).trans (HB18.out.mono ((Below.refl w16.heap.size w16).trans (HBw17.out.mono (Below.refl w16.heap.size w16).size)).size))
      have hb16_19 : Below w16.heap.size w16 W19 := hb16_18.grown HG19.out (by have := hb16_18.size; omega) (fun q e => by simp at e; omega)
      have hb4_19 := hb4_16.trans (hb16_19.mono hb4_16.size)
      have hb1_19 := HBw4.out.trans (hb4_19.mono HBw4.out.size)
      have HB19 : Hid (Below w.heap.size w W19) := Lib.hid (HB1.out.trans (hb1_19.mono HB1.out.size))
      have HX19 := Lib.hid (HX1.out.ext hb1_19)
      have HO4_19 := Lib.hid ((IsRecs.below orderK HOw4.out hb4_19 (Nat.le_refl _)).mono orderK hb4_19.size)
      have HO16_19 := Lib.hid ((IsRecs.below orderK HOw16.out hb16_19 (Nat.le_refl _)).mono orderK hb16_19.size)
      have HW18 := Lib.hid hW18
      have HW19 := Lib.hid hW19
      clear hW18 hW19 hb4_16 hb16_18 hb16_19 hb4_19 hb1_19
      go_upto_region 12 with fail
      rw [HW18.out]
      have n0 := HK18.out.2 0
      have q1 := HC18.out.1.cell 1
      have f1 := HC18.out.1.free 1
      simp at n0 q1
      go_upto_region 13 with fail
      rw [HW19.out]
      clear n0 q1 f1
      have HX20 : Hid (∀ W, Below W19.heap.size W19 W → ∀ i, W.cell? ⟨b0, i, none⟩ = (#[.int .i64 0, .int .i64 0, .int .i64 1, .int .i64 0, .int .i64 0, .int .i64 9, .int .i64 2, .int .i64 7, .slice none 0 0, .bool false, .int .i64 0] : Array Value)[i]?) := Lib.hid fun W hW i => (HX19.out.ext hW).2 i
      have k0 := HX20.out W19 (Below.refl _ _) 0
      have k1 := HX20.out W19 (Below.refl _ _) 1
      have k2 := HX20.out W19 (Below.refl _ _) 2
      have k3 := HX20.out W19 (Below.refl _ _) 3
      have k4 := HX20.out W19 (Below.refl _ _) 4
      have k5 := HX20.out W19 (Below.refl _ _) 5
      have k6 := HX20.out W19 (Below.refl _ _) 6
      have k7 := HX20.out W19 (Below.refl _ _) 7
      have k8 := HX20.out W19 (Below.refl _ _) 8
      have k9 := HX20.out W19 (Below.refl _ _) 9
      have k10 := HX20.out W19 (Below.refl _ _) 10
      simp at k0 k1 k2 k3 k4 k5 k6 k7 k8 k9 k10
      have HBA : Hid (Below W19.heap.size W19 (W19.alloc (.cells #[.int .i64 0, .int .i64 0, .int .i64 1, .int .i64 0, .int .i64 0, .int .i64 9, .int .i64 2, .int .i64 7, .slice none 0 0, .bool false, .int .i64 0] 38))) := Lib.hid (box_below' _ _)
      have HO1 : Hid (IsOrders (W19.heap.size + 1) (W19.alloc (.cells #[.int .i64 0, .int .i64 0, .int .i64 1, .int .i64 0, .int .i64 0, .int .i64 9, .int .i64 2, .int .i64 7, .slice none 0 0, .bool false, .int .i64 0] 38)) (.slice (some ⟨W19.heap.size, 0, none⟩) 1 1) [exO]) := Lib.hid (order1 (w := W19) (x := exO) (t := 38) rfl exO_ok)
      have HO2 : Hid (IsOrders (W19.heap.size + 1) (W19.alloc (.cells #[.int .i64 0, .int .i64 0, .int .i64 1, .int .i64 0, .int .i64 0, .int .i64 9, .int .i64 2, .int .i64 7, .slice none 0 0, .bool false, .int .i64 0] 38)) (.slice aw4 [exO].length cw4) [exO]) := Lib.hid ((IsRecs.below orderK HO4_19.out HBA.out (Nat.le_refl _)).mono orderK (by omega))
      go_wp2_with fail
      refine (rsame_any (W19.heap.size + 1) _ _ _ [exO] [exO] (by simp) HO2.out HO1.out).mono ?_
      rintro e w20 ⟨rfl, hb⟩
      rw [show sameOs [exO] [exO] = true from by unfold sameOs; simp]
      have hb20 : Below W19.heap.size W19 w20 := HBA.out.trans (hb.mono (by simp))
      have HB20 := Lib.hid hb20
      clear hb hb20 HO1 HO2 HBA
      clear k0 k1 k2 k3 k4 k5 k6 k7 k8 k9 k10
      go_wp2_with fail
      refine (check_any w20.heap.size w20 ⟨.slice none 0 0, .slice none 0 0, .slice none 0 0, .slice none 0 0⟩ exN0 (Nat.le_refl _) exN0_is exN0_small).mono ?_
      rintro e w21 ⟨rfl, hb⟩
      rw [ex6.1]
      have hb21 : Below W19.heap.size W19 w21 := HB20.out.trans (hb.mono HB20.out.size)
      have HB21 := Lib.hid hb21
      have n0 := (HK19.out.ext hb21).2 0
      have n1 := (HK19.out.ext hb21).2 1
      have n2 := (HK19.out.ext hb21).2 2
      have n3 := (HK19.out.ext hb21).2 3
      simp at n0 n1 n2 n3
      have HN21 := Lib.hid ((HN19.out.below hb21 (Nat.le_refl _)).mono hb21.size)
      clear hb hb21
      go_wp2_with fail
      refine (check_any w21.heap.size w21 (exV w16.heap.size) exN2 (Nat.le_refl _) HN21.out exN2_small).mono ?_
      rintro e w22 ⟨rfl, hb⟩
      rw [ex6.2]
      have hb22 : Below W19.heap.size W19 w22 := HB21.out.trans (hb.mono HB21.out.size)
      have HB22 := Lib.hid hb22
      have ho22 := (IsRecs.below orderK HO16_19.out hb22 (Nat.le_refl _)).mono orderK hb22.size
      obtain ⟨b, off, va, e16, bb, hst, hok, g0, g1, g2, g3, g4, g5, g6, g7, g8, g9, g10⟩ := IsOrders.cell ho22 (show 0 < [exO2].length by decide)
      subst e16
      rw [show (orderAt [exO2] 0).against = [0, 1] from rfl] at hst
      have HST := Lib.hid hst
      obtain ⟨bv, ov, cv, ⟨av, rfl, _, _, _⟩, _⟩ := hst
      simp only [Nat.zero_mul, Nat.add_zero] at g8
      clear hb hb22 ho22 g0 g1 g2 g3 g4 g5 g6 g7 g9 g10 hok n0 n1 n2 n3
      have HBA : Hid (Below w22.heap.size w22 (w22.alloc (.cells #[.int .i64 0, .int .i64 1] 3))) := Lib.hid (box_below' _ _)
      have HI1 : Hid (IsInts (w22.heap.size + 1) (w22.alloc (.cells #[.int .i64 0, .int .i64 1] 3)) (.slice (some ⟨w22.heap.size, 0, none⟩) 2 2) [0, 1]) := Lib.hid (by
        have h := intsOf (xs := [0, 1]) (c := 2) (CellsN.new w22 #[.int .i64 0, .int .i64 1] 3) (by decide) (by omega) (by simp [I64])
        rw [World.size_alloc] at h
        exact h)
      have HI2 : Hid (IsInts (w22.heap.size + 1) (w22.alloc (.cells #[.int .i64 0, .int .i64 1] 3)) (.slice av [(0 : Int), 1].length cv) [0, 1]) := Lib.hid ((HST.out.below HBA.out (Nat.le_refl _)).mono (by omega))
      go_wp2_with fail
      refine (rsints_any (w22.heap.size + 1) _ _ _ [0, 1] [0, 1] HI2.out HI1.out).mono ?_
      rintro e w23 ⟨rfl, hd⟩
      rw [show sameI [0, 1] [0, 1] = true from by unfold sameI; simp]
      have hb23 : Below W19.heap.size W19 w23 := (HB22.out.trans (HBA.out.mono HB22.out.size)).trans (hd.below _)
      have HB23 := Lib.hid hb23
      clear hd hb23 g8
      have k0 := HX20.out w23 (HB23.out) 0
      have k1 := HX20.out w23 (HB23.out) 1
      have k2 := HX20.out w23 (HB23.out) 2
      have k3 := HX20.out w23 (HB23.out) 3
      have k4 := HX20.out w23 (HB23.out) 4
      have k5 := HX20.out w23 (HB23.out) 5
      have k6 := HX20.out w23 (HB23.out) 6
      have k7 := HX20.out w23 (HB23.out) 7
      have k8 := HX20.out w23 (HB23.out) 8
      have k9 := HX20.out w23 (HB23.out) 9
      have k10 := HX20.out w23 (HB23.out) 10
      simp at k0 k1 k2 k3 k4 k5 k6 k7 k8 k9 k10
      go_wp2_with fail
      refine (right_any w23.heap.size w23 (.slice none 0 0) exO 2 1 1 (Nat.le_refl _) noInts' exO_ok).mono ?_
      rintro e w24 ⟨rfl, hb⟩
      rw [ex7.1]
      have hb24 : Below W19.heap.size W19 w24 := HB23.out.trans (hb.mono HB23.out.size)
      have HB24 := Lib.hid hb24
      clear hb hb24
      clear k0 k1 k2 k3 k4 k5 k6 k7 k8 k9 k10
      go_wp2_with fail
      refine (right_any w24.heap.size w24 (.slice none 0 0) exZ 2 1 1 (Nat.le_refl _) noInts' exZ_ok).mono ?_
      rintro e w25 ⟨rfl, hb⟩
      rw [ex7.2.1]
      have hb25 : Below W19.heap.size W19 w25 := HB24.out.trans (hb.mono HB24.out.size)
      have HB25 := Lib.hid hb25
      clear hb hb25
      have k0 := HX20.out w25 (HB25.out) 0
      have k1 := HX20.out w25 (HB25.out) 1
      have k2 := HX20.out w25 (HB25.out) 2
      have k3 := HX20.out w25 (HB25.out) 3
      have k4 := HX20.out w25 (HB25.out) 4
      have k5 := HX20.out w25 (HB25.out) 5
      have k6 := HX20.out w25 (HB25.out) 6
      have k7 := HX20.out w25 (HB25.out) 7
      have k8 := HX20.out w25 (HB25.out) 8
      have k9 := HX20.out w25 (HB25.out) 9
      have k10 := HX20.out w25 (HB25.out) 10
      simp at k0 k1 k2 k3 k4 k5 k6 k7 k8 k9 k10
      go_wp2_with fail
      refine (right_any w25.heap.size w25 (.slice none 0 0) exO 1 1 1 (Nat.le_refl _) noInts' exO_ok).mono ?_
      rintro e w26 ⟨rfl, hb⟩
      rw [ex7.2.2]
      have HB26 : Hid (Below w.heap.size w w26) := Lib.hid ((HB19.out.trans (HB25.out.mono HB19.out.size)).trans (hb.mono (by have := HB19.out.size; have := HB25.out.size; omega)))
      clear hb
      clear k0 k1 k2 k3 k4 k5 k6 k7 k8 k9 k10
      go_wp2
      go_ret
      exact ⟨rfl, HB26.out⟩
end Go.Proofs.Ytmfbabmejbppjaa
