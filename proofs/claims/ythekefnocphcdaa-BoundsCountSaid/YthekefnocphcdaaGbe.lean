/- Layers Rc6 Cl1 KLoop Sr3 So27 RegIn K8In C12 Marks: the walks and the plain laws under the last text, merged and cut to what it uses; nothing is assumed. -/
import Derived.Lib.SliceRun
import Derived.Laws.Rows
import Derived.OrdersIn
import Derived.RangeFuncLeaves
import Derived.Test.YthekefnocphcdaaGbd

set_option linter.unusedVariables false

set_option linter.unusedSimpArgs false

namespace Go.Proofs.Ythekefnocphcdaa

open Go.RowKit

theorem IsMat.form {B : Nat} {w : World} {v : Value} {rows : List (List Int)} (h : IsMat B w v rows) : ∃ a c, v = .slice a rows.length c ∧ rows.length ≤ c := by
  obtain ⟨_, _, c, ⟨a, e, h1, _⟩, _⟩ := h; exact ⟨a, c, e, h1⟩

theorem isMat_one {B : Nat} {w : World} {v : Value} {xs : List Int} (h : IsInts B w v xs) (hB : B ≤ w.heap.size) : IsMat (w.heap.size + 1) (w.alloc (.cells #[v] 34)) (.slice (some ⟨w.heap.size, 0, none⟩) 1 1) [xs] := by
  refine ⟨w.heap.size, 0, 1, ⟨_, rfl, by simp, by omega, Or.inl rfl⟩, by simp, fun j hj => ?_⟩
  obtain rfl : j = 0 := by simp at hj; omega
  exact ⟨v, ⟨by omega, World.cell?_alloc_at _ _ _ _ rfl⟩, (h.below (box_below hB _) (Nat.le_refl _)).mono (by omega)⟩

/-- what holds at the head of All's loop over the lots -/
def AllRel (w : World) (f : Flow) (k : Nat) (vl : Value) (wr : World) : Prop := OwnMat w.heap.size wr vl (asgTo f k) ∧ manyTo f k = false ∧ Below w.heap.size w wr

/-- .. of its loops over the states and the permutations -/
def NextRel (w9 : World) (f : Flow) (k i j : Nat) (vn : Value) (wr : World) : Prop := OwnMat w9.heap.size wr vn (parTo f k i j) ∧ Below w9.heap.size w9 wr

set_option maxHeartbeats 8000000 in
set_option maxRecDepth 100000 in
/-- frankingref27.All -/
theorem rall27_any (B : Nat) (w : World) (vs vl : Value) (f : Flow) (hf : IsFlow B w vs vl f) (hB : B ≤ w.heap.size) :
    Calls Try.prog 16 #[.agg #[vs, vl]] w fun e w' => ∃ v, e = .returned (.tuple #[v, .int .i64 (allE f)]) ∧ OwnMat w.heap.size w' v (allR f) ∧ Below w.heap.size w w' := by
  have HF := Lib.hid hf
  obtain ⟨rfl, ⟨hs1, hs2⟩, hl⟩ := hf
  obtain ⟨b, off, cap, ⟨a, rfl, hcap, hmax, ha⟩, hlen, hc⟩ := hl
  have HC := Lib.hid hc
  have HA := Lib.hid ha
  clear hc ha
  have HCK := Lib.hid (fun o => check25_any B (w.alloc o) _ _ f (HF.out.below (box_below hB o) (Nat.le_refl _)) (by simp; omega))
  have HER : Hid (allE f = if checkE f ≠ 0 then checkE f else if 8 < f.senders then 2 else if manyTo f f.lots.length then 2 else 0) := Lib.hid rfl
  have HRR : Hid (allR f = if allE f = 0 then asgL f else []) := Lib.hid rfl
  by_cases h1 : checkE f = 0
  · have h1' : (checkE f != 0) = false := by simpa using h1
    have H1 := Lib.hid h1
    by_cases h2 : 8 < f.senders
    · have h2' : decide (8 < f.senders) = true := decide_eq_true h2
      have HE : Hid (allE f = 2) := Lib.hid (by rw [HER.out, if_neg (by simp [h1]), if_pos h2])
      have HR : Hid (allR f = []) := Lib.hid (by rw [HRR.out, HE.out]; rfl)
      clear h1
      go_enter Try.func16, Try.ntmps16
      go_wp2_with (go_at_call 22; refine (HCK.out _).mono ?_; rintro e w5 ⟨rfl, hb5⟩; have HB5 := Lib.hid hb5; have HX5 := Lib.hid ((Box.new w #[.int .i64 f.senders, .slice a f.lots.length cap] 24).ext hb5); obtain ⟨z5, r5⟩ := HX5.out; clear hb5)
      go_ret2
      exact ⟨.slice none 0 0, by rw [HE.out]; rfl, by rw [HR.out]; exact OwnMat.nil _ _, (box_below' w _).trans (HB5.out.mono (by simp))⟩
    · have h2' : decide (8 < f.senders) = false := decide_eq_false h2
      have h8 : f.senders ≤ 8 := by omega
      obtain ⟨h0, _, h2000, h50, hlots⟩ := checkE_ok h1
      have HE1 : Hid (allE f = if manyTo f f.lots.length then 2 else 0) := Lib.hid (by rw [HER.out, if_neg (by simp [h1]), if_neg h2])
      have HLT := Lib.hid hlots
      have H50 := Lib.hid h50
      obtain ⟨n, hn⟩ : ∃ n : Nat, f.senders = (n : Int) := ⟨f.senders.toNat, by omega⟩
      have hn8 : n ≤ 8 := by omega
      have htn : f.senders.toNat = n := by omega
      have HTN := Lib.hid htn
      have HN := Lib.hid hn
      clear h1 hlots h50 htn
      rw [hn] at h2' HCK HF ⊢
      clear hn
      go_enter Try.func16, Try.ntmps16
      go_wp2_with (first
        | (go_at_call 22; refine (HCK.out _).mono ?_; rintro e w5 ⟨rfl, hb5⟩; have HB5 := Lib.hid ((box_below' w _).trans (hb5.mono (by simp))); have HX5 := Lib.hid ((Box.new w #[.int .i64 (n : Int), .slice a f.lots.length cap] 24).ext hb5); obtain ⟨z5, r5⟩ := HX5.out; clear hb5)
        | (at_make; refine wpList_make_ints (m := n) (C := w.heap.size) rfl _ _ rfl rfl rfl (by omega) ?c1 ?c2))
      case c1 => exact HB5.out.size
      case c2 =>
        intro w6 ho6 hb6 hz6
        have HO6 := Lib.hid ho6
        have HB6 := Lib.hid hb6
        have HZ5 : Hid (w.heap.size < w5.heap.size) := Lib.hid z5
        clear ho6 hb6 hz6 z5 r5
        go_wp2
        go_loopw [6] (fun vi wr => ∃ s : Nat, s ≤ n ∧ vi = .int .i64 s ∧ OwnInts w.heap.size wr (.slice (some ⟨w5.heap.size, 0, none⟩) n n) (begL n s) ∧ Below w5.heap.size w5 wr) (fun vi _ => n - (intOf vi).toNat)
        case atStart => exact ⟨0, by omega, rfl, by rw [begL_zero]; exact HO6.out, HB6.out⟩
        case round =>
          obtain ⟨s, hs, rfl, ho, hbl⟩ := hrel
          have HO7 := Lib.hid ho
          have HB7 := Lib.hid hbl
          have HX7 := Lib.hid (HX5.out.ext hbl)
          obtain ⟨z7, r7⟩ := HX7.out
          clear ho hbl HO6 HB6
          by_cases hlt : s < n
          · have hlt' : decide ((s : Int) < n) = true := decide_eq_true (by omega)
            have c1 := HO7.out.cellAt (begL_len (by omega)).symm (j := s) (by rw [begL_len (by omega)]; exact hlt)
            have c2 := HO7.out.freeAt (begL_len (by omega)).symm s
            have HST := Lib.hid (HO7.out.store (begL_len (by omega)).symm s (y := (s : Int)) (by unfold I64; omega))
            rw [begL_set hlt] at HST
            go_wp2
            go_roundw
            case rel => exact ⟨s + 1, by omega, by go_num, HST.out, HB7.out.setCell (p := ⟨w5.heap.size, s, none⟩) (Nat.le_refl _) _⟩
            case measure => simp [intOf]; omega
          · have hlt' : decide ((s : Int) < n) = false := decide_eq_false (by omega)
            obtain rfl : s = n := by omega
            have HBE : Hid (begL s s = beginL f) := Lib.hid (by rw [← HTN.out]; exact begL_all f)
            rw [HBE.out] at HO7
            have HM7 := Lib.hid (OwnMat.one HO7.out rfl (Nat.le_trans (Nat.le_of_lt HZ5.out) HB7.out.size))
            have HB8 : Hid (Below w.heap.size w (wr.alloc (.cells #[.slice (some ⟨w5.heap.size, 0, none⟩) s s] 34))) := Lib.hid ((HB5.out.trans (HB7.out.mono HB5.out.size)).alloc (Nat.le_trans (Nat.le_of_lt HZ5.out) HB7.out.size) _)
            have HX8 := Lib.hid (HX7.out.alloc (.cells #[.slice (some ⟨w5.heap.size, 0, none⟩) s s] 34))
            go_wp2
            clear z7 r7
            obtain ⟨w8, hw8⟩ : ∃ W, wr.alloc (.cells #[.slice (some ⟨w5.heap.size, 0, none⟩) s s] 34) = W := ⟨_, rfl⟩
            rw [hw8] at HM7 HB8 HX8 ⊢
            have HAR : Hid (AllRel w f 0 (.slice (some ⟨wr.heap.size, 0, none⟩) 1 1) w8) := Lib.hid ⟨HM7.out, rfl, HB8.out⟩
            clear hw8
            obtain ⟨wA, rfl⟩ : ∃ W, W = wr := ⟨_, rfl⟩
            go_loopw [7, 8] (fun vl vk wq => ∃ k : Nat, k ≤ f.lots.length ∧ vk = .int .i64 k ∧ AllRel w f k vl wq ∧ Box wq w.heap.size #[.int .i64 (s : Int), .slice a f.lots.length cap]) (fun _ vk _ => f.lots.length - (intOf vk).toNat)
            case atStart => exact ⟨0, by omega, rfl, HAR.out, HX8.out⟩
            case round =>
              obtain ⟨k, hk, rfl, ⟨hm, hmany, hbl⟩, hbx⟩ := hrel
              obtain ⟨wB, rfl⟩ : ∃ W, W = wr := ⟨_, rfl⟩
              have HM := Lib.hid hm
              have HMY := Lib.hid hmany
              have HBB := Lib.hid hbl
              have HBX := Lib.hid hbx
              obtain ⟨zx, rx⟩ := hbx
              obtain ⟨al, cl, rfl, _⟩ := hm.form
              clear hm hmany hbl HAR HM7 HB8 HX8 HO7 HB7 HX7
              by_cases hlt : k < f.lots.length
              · have hlt' : decide ((k : Int) < f.lots.length) = true := decide_eq_true (by omega)
                obtain rfl : a = some ⟨b, off, none⟩ := by rcases HA.out with h | h; exact h; omega
                obtain ⟨vi, vk, vp, ⟨hb, c1⟩, ⟨_, c2⟩, ⟨_, c3⟩, hli, rfl, hlp⟩ := HC.out k hlt
                have hbw : b < w.heap.size := by omega
                have d1 := (HBB.out.cell (p := ⟨b, off + k * 3, none⟩) hbw).trans c1
                have d2 := (HBB.out.cell (p := ⟨b, off + k * 3 + 1, none⟩) hbw).trans c2
                have d3 := (HBB.out.cell (p := ⟨b, off + k * 3 + 2, none⟩) hbw).trans c3
                obtain ⟨ai, ci, rfl⟩ := hli.form
                obtain ⟨ap, cp, rfl⟩ := hlp.form
                have HLI := Lib.hid hli
                have HLP := Lib.hid hlp
                have HBEF := Lib.hid (fun W (hW : Below w.heap.size w W) => before_any B W _ _ f k (HF.out.below hW hB) (Nat.le_trans hB hW.size) hk (by omega) (by omega))
                clear hli hlp c1 c2 c3
                have hlotk := lotsB_lot HLT.out hlt
                have HIND : Hid (lotAt f.lots k).ins.Nodup := Lib.hid (lotB_parts hlotk).2.1
                have HIN8 : Hid ((lotAt f.lots k).ins.length ≤ 8) := Lib.hid (by have := ins_few h0 HLT.out hlt; omega)
                have HBF : Hid (0 ≤ beforeI f k ∧ beforeI f k ≤ 1000000) := Lib.hid (by have h1 := beforeI_mono (f := f) (show k ≤ f.lots.length by omega); have h2 := beforeI_mono (f := f) (show 0 ≤ k by omega); have h3 : beforeI f 0 = f.senders := rfl; have := H50.out; omega)
                have HPML : Hid (∀ j, j < (permsOf (lotAt f.lots k)).length → (rowAt (permsOf (lotAt f.lots k)) j).length = (lotAt f.lots k).ins.length ∧ ∀ x ∈ rowAt (permsOf (lotAt f.lots k)) j, 0 ≤ x ∧ x ≤ 1000000) := Lib.hid (fun j hj => by
                  rw [rowAt_get hj]
                  obtain ⟨p1, p2, p3⟩ := permB_parts (permsOf_perm hlotk (List.getElem_mem hj))
                  exact ⟨p2, fun x hx => by have := p1 x hx; have := HIN8.out; omega⟩)
                have HLK1 : Hid (lotsB f (k + 1) = true) := Lib.hid (by
                  cases h : lotsB f (k + 1) with
                  | true => rfl
                  | false => have := lotsB_false h (show k + 1 ≤ f.lots.length by omega); rw [HLT.out] at this; cases this)
                have hal8 : (asgTo f k).length ≤ 16777216 := asg_8 h0 h8 (by
                  cases h : lotsB f k with
                  | true => rfl
                  | false => have := lotsB_false h (show k ≤ f.lots.length by omega); rw [HLT.out] at this; cases this)
                have hpl8 : (permsOf (lotAt f.lots k)).length ≤ 40320 := perms_few h0 h8 HLT.out hlt
                have h0' := h0
                clear hlotk
                cases hkn : (lotAt f.lots k).known
                · rw [hkn] at d2
                  go_wp2_with fail
                  refine (HBEF.out _ (HBB.out.alloc (by have := HBB.out.size; omega) _)).mono ?_
                  rintro e w10 ⟨rfl, hb10⟩

                  have HB10 := Lib.hid ((box_below' wB _).trans (hb10.mono (by simp)))
                  have HLB10 := Lib.hid ((Box.new wB #[.slice ai (lotAt f.lots k).ins.length ci, .bool false, .slice ap (lotAt f.lots k).perm.length cp] 39).ext hb10)
                  obtain ⟨zy, ry⟩ := HLB10.out
                  clear hb10
                  have HPO : Hid (permsOf (lotAt f.lots k) = permsL (lotAt f.lots k).ins.length) := Lib.hid (by unfold permsOf; rw [hkn]; rfl)
                  have HPC := Lib.hid (fun W => perms27_any (lotAt f.lots k).ins.length HIN8.out W)
                  go_wp2_with (go_at_call 23; refine (HPC.out _).mono ?_; rintro e w12 ⟨v12, rfl, ho12, hb12⟩; rw [← HPO.out] at ho12; obtain ⟨a12, c12, rfl, _⟩ := ho12.form; have HPM := Lib.hid ho12.isMat; have HB1012 : Hid (Below w10.heap.size w10 w12) := Lib.hid ((box_below' w10 _).trans (hb12.mono (by simp))); have HB12 : Hid (Below wB.heap.size wB w12) := Lib.hid (HB10.out.trans (HB1012.out.mono HB10.out.size)); clear ho12 hb12)
                  clear zy ry
                  have HLM := Lib.hid (HM.out.below HB12.out).isMat
                  have HLB12 := Lib.hid (HLB10.out.ext HB1012.out)
                  have HLI12 := Lib.hid ((HLI.out.below (HBB.out.trans (HB12.out.mono HBB.out.size)) hB).mono (Nat.le_trans hB (Nat.le_trans HBB.out.size HB12.out.size)))
                  clear HLB10 HBEF
                  go_loopw [12, 13] (fun vn vi wr => ∃ i : Nat, i ≤ (asgTo f k).length ∧ vi = .int .i64 i ∧ NextRel w12 f k i 0 vn wr) (fun _ vi _ => (asgTo f k).length - (intOf vi).toNat)
                  case atStart => exact ⟨0, by omega, rfl, by rw [parTo_zero]; exact OwnMat.nil _ _, Below.refl _ _⟩
                  case round =>
                    obtain ⟨i, hi, rfl, hnm, hnb⟩ := hrel
                    obtain ⟨wC, rfl⟩ : ∃ W, W = wr := ⟨_, rfl⟩
                    have HNM := Lib.hid hnm
                    have HNB := Lib.hid hnb
                    clear hnm hnb
                    by_cases hil : i < (asgTo f k).length
                    · have hil' : decide ((i : Int) < (asgTo f k).length) = true := decide_eq_true (by omega)
                      go_wp2
                      go_loopw [12, 14] (fun vn vj wr => ∃ j : Nat, j ≤ (permsOf (lotAt f.lots k)).length ∧ vj = .int .i64 j ∧ NextRel w12 f k i j vn wr) (fun _ vj _ => (permsOf (lotAt f.lots k)).length - (intOf vj).toNat)
                      case atStart => exact ⟨0, by omega, rfl, HNM.out, HNB.out⟩
                      case round =>
                        obtain ⟨j, hj, rfl, hnm, hnb⟩ := hrel
                        obtain ⟨an, cn, rfl, hnl⟩ := hnm.form
                        have HNL := Lib.hid hnl
                        have HNM2 := Lib.hid hnm
                        have HNB2 := Lib.hid hnb
                        clear hnm hnb hnl HNM HNB
                        by_cases hjl : j < (permsOf (lotAt f.lots k)).length
                        · have hjl' : decide ((j : Int) < (permsOf (lotAt f.lots k)).length) = true := decide_eq_true (by omega)
                          obtain ⟨bl, ol, rfl, hlc⟩ := HLM.out.cells (by omega)
                          obtain ⟨bp, op, hape, hpc⟩ := HPM.out.cells (by omega)
                          obtain ⟨rl, ql, il⟩ := hlc i hil
                          obtain ⟨rp, qp, ip⟩ := hpc j hjl
                          subst hape
                          obtain ⟨ar, cr, rfl⟩ := il.form
                          obtain ⟨aq, cq, rfl⟩ := ip.form
                          have HQL := Lib.hid ql.1
                          have HE1L := Lib.hid ql.2
                          have HQP := Lib.hid qp.1
                          have HE2L := Lib.hid qp.2
                          have HQY := Lib.hid HLB12.out.1
                          have HE0L : Hid (w12.cell? ⟨wB.heap.size, 0, none⟩ = some (.slice ai (lotAt f.lots k).ins.length ci)) := Lib.hid (HLB12.out.2 0)
                          have HMVW := Lib.hid (fun W (hbd : Below w12.heap.size w12 W) => moved_any w12.heap.size W _ _ _ (rowAt (asgTo f k) i) (lotAt f.lots k).ins (rowAt (permsOf (lotAt f.lots k)) j) (beforeI f k)
                            (il.below hbd (Nat.le_refl _)) (HLI12.out.below hbd (Nat.le_refl _)) (ip.below hbd (Nat.le_refl _)) hbd.size HIND.out (HPML.out j hjl).1 HBF.out.1 HBF.out.2 (HPML.out j hjl).2)
                          have HSTEP := Lib.hid (parTo_step (f := f) (k := k) (i := i) hjl)
                          have HPOK := Lib.hid (parTo_ok (f := f) (k := k) (i := i) (j := j) (.inl hil))
                          have HMVL : Hid ((moveL (lotAt f.lots k).ins (rowAt (permsOf (lotAt f.lots k)) j) (beforeI f k) (rowAt (asgTo f k) i)).length = f.senders.toNat) := Lib.hid (by rw [moveL_len, rowAt_get hil]; exact asg_len k _ (List.getElem_mem hil))
                          clear hlc hpc ql qp il ip
                          go_wp2
                          obtain ⟨V, hV⟩ : ∃ V : List (Option Value), V = [some (.slice an (parTo f k i j).length cn), some (.slice (some ⟨bl, ol, none⟩) (asgTo f k).length cl), some (.int .i64 (i : Int)), some (.pointer (some ⟨bl, ol + i, none⟩)), some (.slice ar (rowAt (asgTo f k) i).length cr), some (.pointer (some ⟨wB.heap.size, 0, none⟩)), some (.slice ai (lotAt f.lots k).ins.length ci), some (.slice (some ⟨bp, op, none⟩) (permsOf (lotAt f.lots k)).length c12), some (.int .i64 (j : Int)), some (.pointer (some ⟨bp, op + j, none⟩)), some (.slice aq (rowAt (permsOf (lotAt f.lots k)) j).length cq), some (.int .i64 (beforeI f k)), none, none, none] := ⟨_, rfl⟩
                          have HVV := Lib.hid hV
                          clear hV
                          refine wp_region_V [some 75, some 76, some 77, some 78, some 79, some 80, some 81, some 82, some 83, some 84, some 85, some 86, some 87, some 88, some 12] (fun L w' xs => ValsAt V L xs ∧ (Below w12.heap.size w12 w' ∧ (L 14 = true → L 0 = true) ∧ (L 13 = false → Below wr.heap.size wr w') ∧ (L 12 = true → L 13 = false → ∃ a c, xs 12 = .slice a (moveL (lotAt f.lots k).ins (rowAt (permsOf (lotAt f.lots k)) j) (beforeI f k) (rowAt (asgTo f k) i)).length c ∧ OwnInts w12.heap.size w' (.slice a (moveL (lotAt f.lots k).ins (rowAt (permsOf (lotAt f.lots k)) j) (beforeI f k) (rowAt (asgTo f k) i)).length c) (moveL (lotAt f.lots k).ins (rowAt (permsOf (lotAt f.lots k)) j) (beforeI f k) (rowAt (asgTo f k) i))) ∧ (L 13 = true → L 12 = true) ∧ (L 13 = true → ∃ a c, xs 13 = .slice a (parTo f k i (j + 1)).length c ∧ OwnMat w12.heap.size w' (.slice a (parTo f k i (j + 1)).length c) (parTo f k i (j + 1))) ∧ (L 14 = true → L 13 = true ∧ xs 14 = xs 13))) (by kernel_rfl) (by kernel_rfl) (by rfl) (by rfl) (by rfl) ?_ ?_ ?_
                          focus
                            exact fun xs => ⟨ValsAt.none _ _, below_drewN HNB2.out 1, (fun h => by cases h), (fun _ => below_drewN (Below.refl _ wr) 1), (fun h => by cases h), (fun h => by cases h), (fun h => by cases h), (fun h => by cases h)⟩
                          focus
                            refine ⟨?_, ?_, ?_, ?_, ?_, ?_, ?_, ?_, ?_, ?_, ?_, ?_, ?_, ?_, ?_, trivial⟩
                            all_goals
                              intro L a' w' xs hi hd hf hJ K hK
                              obtain ⟨hv, hb, h0, h2, h3, h4, h5, h6⟩ := hJ
                              have HF := Lib.hid hf
                              have HVA := Lib.hid hv
                              have HLI := Lib.hid hi
                              clear hf hv hi
                            focus
                              clear hd
                              obtain ⟨ρ, hρ⟩ : ∃ ρ, a'.eval = ρ := ⟨_, rfl⟩
                              have hcst : ∀ v, ρ (.const v) = v := fun v => (congrFun hρ (.const v)).symm
                              have h14 : L 14 = false := by
                                cases h : L 14 with
                                | false => rfl
                                | true => have := h0 h; rw [HLI.out] at this; cases this
                              have l12 : ρ (.tmp 12) = .slice an (parTo f k i j).length cn := (congrFun hρ (.tmp 12)).symm.trans (HF.out.rest 14 12 rfl h14)
                              rw [if_pos (by simp [Region.wanted])]
                              unfold Oper.wp
                              rw [hρ]
                              clear hρ
                              go_simp
                              exact hK.out _ _ ⟨HVA.out.set (i := 0) (by rw [HVV.out]; rfl), hb, (fun _ => upd_self _ _), (by simp only [upd_ne (L := L) (show (12 : Nat) ≠ 0 by decide), upd_ne (L := L) (show (13 : Nat) ≠ 0 by decide), upd_ne (L := L) (show (14 : Nat) ≠ 0 by decide), updV_ne (xs := xs) (show (12 : Nat) ≠ 0 by decide), updV_ne (xs := xs) (show (13 : Nat) ≠ 0 by decide), updV_ne (xs := xs) (show (14 : Nat) ≠ 0 by decide), upd_self, updV_self]; exact h2), (by simp only [upd_ne (L := L) (show (12 : Nat) ≠ 0 by decide), upd_ne (L := L) (show (13 : Nat) ≠ 0 by decide), upd_ne (L := L) (show (14 : Nat) ≠ 0 by decide), updV_ne (xs := xs) (show (12 : Nat) ≠ 0 by decide), updV_ne (xs := xs) (show (13 : Nat) ≠ 0 by decide), updV_ne (xs := xs) (show (14 : Nat) ≠ 0 by decide), upd_self, updV_self]; exact h3), (by simp only [upd_ne (L := L) (show (12 : Nat) ≠ 0 by decide), upd_ne (L := L) (show (13 : Nat) ≠ 0 by decide), upd_ne (L := L) (show (14 : Nat) ≠ 0 by decide), updV_ne (xs := xs) (show (12 : Nat) ≠ 0 by decide), updV_ne (xs := xs) (show (13 : Nat) ≠ 0 by decide), updV_ne (xs := xs) (show (14 : Nat) ≠ 0 by decide), upd_self, updV_self]; exact h4), (by simp only [upd_ne (L := L) (show (12 : Nat) ≠ 0 by decide), upd_ne (L := L) (show (13 : Nat) ≠ 0 by decide), upd_ne (L := L) (show (14 : Nat) ≠ 0 by decide), updV_ne (xs := xs) (show (12 : Nat) ≠ 0 by decide), updV_ne (xs := xs) (show (13 : Nat) ≠ 0 by decide), updV_ne (xs := xs) (show (14 : Nat) ≠ 0 by decide), upd_self, updV_self]; exact h5), (by simp only [upd_ne (L := L) (show (12 : Nat) ≠ 0 by decide), upd_ne (L := L) (show (13 : Nat) ≠ 0 by decide), upd_ne (L := L) (show (14 : Nat) ≠ 0 by decide), updV_ne (xs := xs) (show (12 : Nat) ≠ 0 by decide), updV_ne (xs := xs) (show (13 : Nat) ≠ 0 by decide), updV_ne (xs := xs) (show (14 : Nat) ≠ 0 by decide), upd_self, updV_self]; exact h6)⟩
                            focus
                              clear hd
                              obtain ⟨ρ, hρ⟩ : ∃ ρ, a'.eval = ρ := ⟨_, rfl⟩
                              have hcst : ∀ v, ρ (.const v) = v := fun v => (congrFun hρ (.const v)).symm
                              have l7 : ρ (.tmp 7) = .slice (some ⟨bl, ol, none⟩) (asgTo f k).length cl := (congrFun hρ (.tmp 7)).symm.trans (HF.out.lo 7 rfl)
                              rw [if_pos (by simp [Region.wanted])]
                              unfold Oper.wp
                              rw [hρ]
                              clear hρ
                              go_simp
                              exact hK.out _ _ ⟨HVA.out.set (i := 1) (by rw [HVV.out]; rfl), hb, (by simp only [upd_ne (L := L) (show (0 : Nat) ≠ 1 by decide), upd_ne (L := L) (show (12 : Nat) ≠ 1 by decide), upd_ne (L := L) (show (13 : Nat) ≠ 1 by decide), upd_ne (L := L) (show (14 : Nat) ≠ 1 by decide), updV_ne (xs := xs) (show (0 : Nat) ≠ 1 by decide), updV_ne (xs := xs) (show (12 : Nat) ≠ 1 by decide), updV_ne (xs := xs) (show (13 : Nat) ≠ 1 by decide), updV_ne (xs := xs) (show (14 : Nat) ≠ 1 by decide)]; exact h0), (by simp only [upd_ne (L := L) (show (0 : Nat) ≠ 1 by decide), upd_ne (L := L) (show (12 : Nat) ≠ 1 by decide), upd_ne (L := L) (show (13 : Nat) ≠ 1 by decide), upd_ne (L := L) (show (14 : Nat) ≠ 1 by decide), updV_ne (xs := xs) (show (0 : Nat) ≠ 1 by decide), updV_ne (xs := xs) (show (12 : Nat) ≠ 1 by decide), updV_ne (xs := xs) (show (13 : Nat) ≠ 1 by decide), updV_ne (xs := xs) (show (14 : Nat) ≠ 1 by decide)]; exact h2), (by simp only [upd_ne (L := L) (show (0 : Nat) ≠ 1 by decide), upd_ne (L := L) (show (12 : Nat) ≠ 1 by decide), upd_ne (L := L) (show (13 : Nat) ≠ 1 by decide), upd_ne (L := L) (show (14 : Nat) ≠ 1 by decide), updV_ne (xs := xs) (show (0 : Nat) ≠ 1 by decide), updV_ne (xs := xs) (show (12 : Nat) ≠ 1 by decide), updV_ne (xs := xs) (show (13 : Nat) ≠ 1 by decide), updV_ne (xs := xs) (show (14 : Nat) ≠ 1 by decide)]; exact h3), (by simp only [upd_ne (L := L) (show (0 : Nat) ≠ 1 by decide), upd_ne (L := L) (show (12 : Nat) ≠ 1 by decide), upd_ne (L := L) (show (13 : Nat) ≠ 1 by decide), upd_ne (L := L) (show (14 : Nat) ≠ 1 by decide), updV_ne (xs := xs) (show (0 : Nat) ≠ 1 by decide), updV_ne (xs := xs) (show (12 : Nat) ≠ 1 by decide), updV_ne (xs := xs) (show (13 : Nat) ≠ 1 by decide), updV_ne (xs := xs) (show (14 : Nat) ≠ 1 by decide)]; exact h4), (by simp only [upd_ne (L := L) (show (0 : Nat) ≠ 1 by decide), upd_ne (L := L) (show (12 : Nat) ≠ 1 by decide), upd_ne (L := L) (show (13 : Nat) ≠ 1 by decide), upd_ne (L := L) (show (14 : Nat) ≠ 1 by decide), updV_ne (xs := xs) (show (0 : Nat) ≠ 1 by decide), updV_ne (xs := xs) (show (12 : Nat) ≠ 1 by decide), updV_ne (xs := xs) (show (13 : Nat) ≠ 1 by decide), updV_ne (xs := xs) (show (14 : Nat) ≠ 1 by decide)]; exact h5), (by simp only [upd_ne (L := L) (show (0 : Nat) ≠ 1 by decide), upd_ne (L := L) (show (12 : Nat) ≠ 1 by decide), upd_ne (L := L) (show (13 : Nat) ≠ 1 by decide), upd_ne (L := L) (show (14 : Nat) ≠ 1 by decide), updV_ne (xs := xs) (show (0 : Nat) ≠ 1 by decide), updV_ne (xs := xs) (show (12 : Nat) ≠ 1 by decide), updV_ne (xs := xs) (show (13 : Nat) ≠ 1 by decide), updV_ne (xs := xs) (show (14 : Nat) ≠ 1 by decide)]; exact h6)⟩
                            focus
                              clear hd
                              obtain ⟨ρ, hρ⟩ : ∃ ρ, a'.eval = ρ := ⟨_, rfl⟩
                              have hcst : ∀ v, ρ (.const v) = v := fun v => (congrFun hρ (.const v)).symm
                              have l13 : ρ (.tmp 13) = .int .i64 (i : Int) := (congrFun hρ (.tmp 13)).symm.trans (HF.out.lo 13 rfl)
                              rw [if_pos (by simp [Region.wanted])]
                              unfold Oper.wp
                              rw [hρ]
                              clear hρ
                              go_simp
                              exact hK.out _ _ ⟨HVA.out.set (i := 2) (by rw [HVV.out]; rfl), hb, (by simp only [upd_ne (L := L) (show (0 : Nat) ≠ 2 by decide), upd_ne (L := L) (show (12 : Nat) ≠ 2 by decide), upd_ne (L := L) (show (13 : Nat) ≠ 2 by decide), upd_ne (L := L) (show (14 : Nat) ≠ 2 by decide), updV_ne (xs := xs) (show (0 : Nat) ≠ 2 by decide), updV_ne (xs := xs) (show (12 : Nat) ≠ 2 by decide), updV_ne (xs := xs) (show (13 : Nat) ≠ 2 by decide), updV_ne (xs := xs) (show (14 : Nat) ≠ 2 by decide)]; exact h0), (by simp only [upd_ne (L := L) (show (0 : Nat) ≠ 2 by decide), upd_ne (L := L) (show (12 : Nat) ≠ 2 by decide), upd_ne (L := L) (show (13 : Nat) ≠ 2 by decide), upd_ne (L := L) (show (14 : Nat) ≠ 2 by decide), updV_ne (xs := xs) (show (0 : Nat) ≠ 2 by decide), updV_ne (xs := xs) (show (12 : Nat) ≠ 2 by decide), updV_ne (xs := xs) (show (13 : Nat) ≠ 2 by decide), updV_ne (xs := xs) (show (14 : Nat) ≠ 2 by decide)]; exact h2), (by simp only [upd_ne (L := L) (show (0 : Nat) ≠ 2 by decide), upd_ne (L := L) (show (12 : Nat) ≠ 2 by decide), upd_ne (L := L) (show (13 : Nat) ≠ 2 by decide), upd_ne (L := L) (show (14 : Nat) ≠ 2 by decide), updV_ne (xs := xs) (show (0 : Nat) ≠ 2 by decide), updV_ne (xs := xs) (show (12 : Nat) ≠ 2 by decide), updV_ne (xs := xs) (show (13 : Nat) ≠ 2 by decide), updV_ne (xs := xs) (show (14 : Nat) ≠ 2 by decide)]; exact h3), (by simp only [upd_ne (L := L) (show (0 : Nat) ≠ 2 by decide), upd_ne (L := L) (show (12 : Nat) ≠ 2 by decide), upd_ne (L := L) (show (13 : Nat) ≠ 2 by decide), upd_ne (L := L) (show (14 : Nat) ≠ 2 by decide), updV_ne (xs := xs) (show (0 : Nat) ≠ 2 by decide), updV_ne (xs := xs) (show (12 : Nat) ≠ 2 by decide), updV_ne (xs := xs) (show (13 : Nat) ≠ 2 by decide), updV_ne (xs := xs) (show (14 : Nat) ≠ 2 by decide)]; exact h4), (by simp only [upd_ne (L := L) (show (0 : Nat) ≠ 2 by decide), upd_ne (L := L) (show (12 : Nat) ≠ 2 by decide), upd_ne (L := L) (show (13 : Nat) ≠ 2 by decide), upd_ne (L := L) (show (14 : Nat) ≠ 2 by decide), updV_ne (xs := xs) (show (0 : Nat) ≠ 2 by decide), updV_ne (xs := xs) (show (12 : Nat) ≠ 2 by decide), updV_ne (xs := xs) (show (13 : Nat) ≠ 2 by decide), updV_ne (xs := xs) (show (14 : Nat) ≠ 2 by decide)]; exact h5), (by simp only [upd_ne (L := L) (show (0 : Nat) ≠ 2 by decide), upd_ne (L := L) (show (12 : Nat) ≠ 2 by decide), upd_ne (L := L) (show (13 : Nat) ≠ 2 by decide), upd_ne (L := L) (show (14 : Nat) ≠ 2 by decide), updV_ne (xs := xs) (show (0 : Nat) ≠ 2 by decide), updV_ne (xs := xs) (show (12 : Nat) ≠ 2 by decide), updV_ne (xs := xs) (show (13 : Nat) ≠ 2 by decide), updV_ne (xs := xs) (show (14 : Nat) ≠ 2 by decide)]; exact h6)⟩
                            focus
                              obtain ⟨d1, d2, _⟩ := hd
                              obtain ⟨ρ, hρ⟩ : ∃ ρ, a'.eval = ρ := ⟨_, rfl⟩
                              have hcst : ∀ v, ρ (.const v) = v := fun v => (congrFun hρ (.const v)).symm
                              have v1 : ρ (.tmp 76) = .slice (some ⟨bl, ol, none⟩) (asgTo f k).length cl := (congrFun hρ (.tmp 76)).symm.trans ((HF.out.ev 1 rfl d1).trans (HVA.out 1 _ (by rw [HVV.out]; rfl) d1))
                              have v2 : ρ (.tmp 77) = .int .i64 (i : Int) := (congrFun hρ (.tmp 77)).symm.trans ((HF.out.ev 2 rfl d2).trans (HVA.out 2 _ (by rw [HVV.out]; rfl) d2))
                              rw [if_pos (by simp [Region.wanted])]
                              unfold Oper.wp
                              rw [hρ]
                              clear hρ
                              go_simp
                              exact hK.out _ _ ⟨HVA.out.set (i := 3) (by rw [HVV.out]; rfl), hb, (by simp only [upd_ne (L := L) (show (0 : Nat) ≠ 3 by decide), upd_ne (L := L) (show (12 : Nat) ≠ 3 by decide), upd_ne (L := L) (show (13 : Nat) ≠ 3 by decide), upd_ne (L := L) (show (14 : Nat) ≠ 3 by decide), updV_ne (xs := xs) (show (0 : Nat) ≠ 3 by decide), updV_ne (xs := xs) (show (12 : Nat) ≠ 3 by decide), updV_ne (xs := xs) (show (13 : Nat) ≠ 3 by decide), updV_ne (xs := xs) (show (14 : Nat) ≠ 3 by decide)]; exact h0), (by simp only [upd_ne (L := L) (show (0 : Nat) ≠ 3 by decide), upd_ne (L := L) (show (12 : Nat) ≠ 3 by decide), upd_ne (L := L) (show (13 : Nat) ≠ 3 by decide), upd_ne (L := L) (show (14 : Nat) ≠ 3 by decide), updV_ne (xs := xs) (show (0 : Nat) ≠ 3 by decide), updV_ne (xs := xs) (show (12 : Nat) ≠ 3 by decide), updV_ne (xs := xs) (show (13 : Nat) ≠ 3 by decide), updV_ne (xs := xs) (show (14 : Nat) ≠ 3 by decide)]; exact h2), (by simp only [upd_ne (L := L) (show (0 : Nat) ≠ 3 by decide), upd_ne (L := L) (show (12 : Nat) ≠ 3 by decide), upd_ne (L := L) (show (13 : Nat) ≠ 3 by decide), upd_ne (L := L) (show (14 : Nat) ≠ 3 by decide), updV_ne (xs := xs) (show (0 : Nat) ≠ 3 by decide), updV_ne (xs := xs) (show (12 : Nat) ≠ 3 by decide), updV_ne (xs := xs) (show (13 : Nat) ≠ 3 by decide), updV_ne (xs := xs) (show (14 : Nat) ≠ 3 by decide)]; exact h3), (by simp only [upd_ne (L := L) (show (0 : Nat) ≠ 3 by decide), upd_ne (L := L) (show (12 : Nat) ≠ 3 by decide), upd_ne (L := L) (show (13 : Nat) ≠ 3 by decide), upd_ne (L := L) (show (14 : Nat) ≠ 3 by decide), updV_ne (xs := xs) (show (0 : Nat) ≠ 3 by decide), updV_ne (xs := xs) (show (12 : Nat) ≠ 3 by decide), updV_ne (xs := xs) (show (13 : Nat) ≠ 3 by decide), updV_ne (xs := xs) (show (14 : Nat) ≠ 3 by decide)]; exact h4), (by simp only [upd_ne (L := L) (show (0 : Nat) ≠ 3 by decide), upd_ne (L := L) (show (12 : Nat) ≠ 3 by decide), upd_ne (L := L) (show (13 : Nat) ≠ 3 by decide), upd_ne (L := L) (show (14 : Nat) ≠ 3 by decide), updV_ne (xs := xs) (show (0 : Nat) ≠ 3 by decide), updV_ne (xs := xs) (show (12 : Nat) ≠ 3 by decide), updV_ne (xs := xs) (show (13 : Nat) ≠ 3 by decide), updV_ne (xs := xs) (show (14 : Nat) ≠ 3 by decide)]; exact h5), (by simp only [upd_ne (L := L) (show (0 : Nat) ≠ 3 by decide), upd_ne (L := L) (show (12 : Nat) ≠ 3 by decide), upd_ne (L := L) (show (13 : Nat) ≠ 3 by decide), upd_ne (L := L) (show (14 : Nat) ≠ 3 by decide), updV_ne (xs := xs) (show (0 : Nat) ≠ 3 by decide), updV_ne (xs := xs) (show (12 : Nat) ≠ 3 by decide), updV_ne (xs := xs) (show (13 : Nat) ≠ 3 by decide), updV_ne (xs := xs) (show (14 : Nat) ≠ 3 by decide)]; exact h6)⟩
                            focus
                              obtain ⟨d3, _⟩ := hd
                              obtain ⟨ρ, hρ⟩ : ∃ ρ, a'.eval = ρ := ⟨_, rfl⟩
                              have hcst : ∀ v, ρ (.const v) = v := fun v => (congrFun hρ (.const v)).symm
                              have v3 : ρ (.tmp 78) = .pointer (some ⟨bl, ol + i, none⟩) := (congrFun hρ (.tmp 78)).symm.trans ((HF.out.ev 3 rfl d3).trans (HVA.out 3 _ (by rw [HVV.out]; rfl) d3))
                              have e3 := (hb.cell (p := ⟨bl, ol + i, none⟩) HQL.out).trans HE1L.out
                              rw [if_pos (by simp [Region.wanted])]
                              unfold Oper.wp
                              rw [hρ]
                              clear hρ
                              go_simp
                              exact hK.out _ _ ⟨HVA.out.set (i := 4) (by rw [HVV.out]; rfl), hb, (by simp only [upd_ne (L := L) (show (0 : Nat) ≠ 4 by decide), upd_ne (L := L) (show (12 : Nat) ≠ 4 by decide), upd_ne (L := L) (show (13 : Nat) ≠ 4 by decide), upd_ne (L := L) (show (14 : Nat) ≠ 4 by decide), updV_ne (xs := xs) (show (0 : Nat) ≠ 4 by decide), updV_ne (xs := xs) (show (12 : Nat) ≠ 4 by decide), updV_ne (xs := xs) (show (13 : Nat) ≠ 4 by decide), updV_ne (xs := xs) (show (14 : Nat) ≠ 4 by decide)]; exact h0), (by simp only [upd_ne (L := L) (show (0 : Nat) ≠ 4 by decide), upd_ne (L := L) (show (12 : Nat) ≠ 4 by decide), upd_ne (L := L) (show (13 : Nat) ≠ 4 by decide), upd_ne (L := L) (show (14 : Nat) ≠ 4 by decide), updV_ne (xs := xs) (show (0 : Nat) ≠ 4 by decide), updV_ne (xs := xs) (show (12 : Nat) ≠ 4 by decide), updV_ne (xs := xs) (show (13 : Nat) ≠ 4 by decide), updV_ne (xs := xs) (show (14 : Nat) ≠ 4 by decide)]; exact h2), (by simp only [upd_ne (L := L) (show (0 : Nat) ≠ 4 by decide), upd_ne (L := L) (show (12 : Nat) ≠ 4 by decide), upd_ne (L := L) (show (13 : Nat) ≠ 4 by decide), upd_ne (L := L) (show (14 : Nat) ≠ 4 by decide), updV_ne (xs := xs) (show (0 : Nat) ≠ 4 by decide), updV_ne (xs := xs) (show (12 : Nat) ≠ 4 by decide), updV_ne (xs := xs) (show (13 : Nat) ≠ 4 by decide), updV_ne (xs := xs) (show (14 : Nat) ≠ 4 by decide)]; exact h3), (by simp only [upd_ne (L := L) (show (0 : Nat) ≠ 4 by decide), upd_ne (L := L) (show (12 : Nat) ≠ 4 by decide), upd_ne (L := L) (show (13 : Nat) ≠ 4 by decide), upd_ne (L := L) (show (14 : Nat) ≠ 4 by decide), updV_ne (xs := xs) (show (0 : Nat) ≠ 4 by decide), updV_ne (xs := xs) (show (12 : Nat) ≠ 4 by decide), updV_ne (xs := xs) (show (13 : Nat) ≠ 4 by decide), updV_ne (xs := xs) (show (14 : Nat) ≠ 4 by decide)]; exact h4), (by simp only [upd_ne (L := L) (show (0 : Nat) ≠ 4 by decide), upd_ne (L := L) (show (12 : Nat) ≠ 4 by decide), upd_ne (L := L) (show (13 : Nat) ≠ 4 by decide), upd_ne (L := L) (show (14 : Nat) ≠ 4 by decide), updV_ne (xs := xs) (show (0 : Nat) ≠ 4 by decide), updV_ne (xs := xs) (show (12 : Nat) ≠ 4 by decide), updV_ne (xs := xs) (show (13 : Nat) ≠ 4 by decide), updV_ne (xs := xs) (show (14 : Nat) ≠ 4 by decide)]; exact h5), (by simp only [upd_ne (L := L) (show (0 : Nat) ≠ 4 by decide), upd_ne (L := L) (show (12 : Nat) ≠ 4 by decide), upd_ne (L := L) (show (13 : Nat) ≠ 4 by decide), upd_ne (L := L) (show (14 : Nat) ≠ 4 by decide), updV_ne (xs := xs) (show (0 : Nat) ≠ 4 by decide), updV_ne (xs := xs) (show (12 : Nat) ≠ 4 by decide), updV_ne (xs := xs) (show (13 : Nat) ≠ 4 by decide), updV_ne (xs := xs) (show (14 : Nat) ≠ 4 by decide)]; exact h6)⟩
                            focus
                              clear hd
                              obtain ⟨ρ, hρ⟩ : ∃ ρ, a'.eval = ρ := ⟨_, rfl⟩
                              have hcst : ∀ v, ρ (.const v) = v := fun v => (congrFun hρ (.const v)).symm
                              have l9 : ρ (.tmp 9) = .pointer (some ⟨wB.heap.size, 0, none⟩) := (congrFun hρ (.tmp 9)).symm.trans (HF.out.lo 9 rfl)
                              rw [if_pos (by simp [Region.wanted])]
                              unfold Oper.wp
                              rw [hρ]
                              clear hρ
                              go_simp
                              exact hK.out _ _ ⟨HVA.out.set (i := 5) (by rw [HVV.out]; rfl), hb, (by simp only [upd_ne (L := L) (show (0 : Nat) ≠ 5 by decide), upd_ne (L := L) (show (12 : Nat) ≠ 5 by decide), upd_ne (L := L) (show (13 : Nat) ≠ 5 by decide), upd_ne (L := L) (show (14 : Nat) ≠ 5 by decide), updV_ne (xs := xs) (show (0 : Nat) ≠ 5 by decide), updV_ne (xs := xs) (show (12 : Nat) ≠ 5 by decide), updV_ne (xs := xs) (show (13 : Nat) ≠ 5 by decide), updV_ne (xs := xs) (show (14 : Nat) ≠ 5 by decide)]; exact h0), (by simp only [upd_ne (L := L) (show (0 : Nat) ≠ 5 by decide), upd_ne (L := L) (show (12 : Nat) ≠ 5 by decide), upd_ne (L := L) (show (13 : Nat) ≠ 5 by decide), upd_ne (L := L) (show (14 : Nat) ≠ 5 by decide), updV_ne (xs := xs) (show (0 : Nat) ≠ 5 by decide), updV_ne (xs := xs) (show (12 : Nat) ≠ 5 by decide), updV_ne (xs := xs) (show (13 : Nat) ≠ 5 by decide), updV_ne (xs := xs) (show (14 : Nat) ≠ 5 by decide)]; exact h2), (by simp only [upd_ne (L := L) (show (0 : Nat) ≠ 5 by decide), upd_ne (L := L) (show (12 : Nat) ≠ 5 by decide), upd_ne (L := L) (show (13 : Nat) ≠ 5 by decide), upd_ne (L := L) (show (14 : Nat) ≠ 5 by decide), updV_ne (xs := xs) (show (0 : Nat) ≠ 5 by decide), updV_ne (xs := xs) (show (12 : Nat) ≠ 5 by decide), updV_ne (xs := xs) (show (13 : Nat) ≠ 5 by decide), updV_ne (xs := xs) (show (14 : Nat) ≠ 5 by decide)]; exact h3), (by simp only [upd_ne (L := L) (show (0 : Nat) ≠ 5 by decide), upd_ne (L := L) (show (12 : Nat) ≠ 5 by decide), upd_ne (L := L) (show (13 : Nat) ≠ 5 by decide), upd_ne (L := L) (show (14 : Nat) ≠ 5 by decide), updV_ne (xs := xs) (show (0 : Nat) ≠ 5 by decide), updV_ne (xs := xs) (show (12 : Nat) ≠ 5 by decide), updV_ne (xs := xs) (show (13 : Nat) ≠ 5 by decide), updV_ne (xs := xs) (show (14 : Nat) ≠ 5 by decide)]; exact h4), (by simp only [upd_ne (L := L) (show (0 : Nat) ≠ 5 by decide), upd_ne (L := L) (show (12 : Nat) ≠ 5 by decide), upd_ne (L := L) (show (13 : Nat) ≠ 5 by decide), upd_ne (L := L) (show (14 : Nat) ≠ 5 by decide), updV_ne (xs := xs) (show (0 : Nat) ≠ 5 by decide), updV_ne (xs := xs) (show (12 : Nat) ≠ 5 by decide), updV_ne (xs := xs) (show (13 : Nat) ≠ 5 by decide), updV_ne (xs := xs) (show (14 : Nat) ≠ 5 by decide)]; exact h5), (by simp only [upd_ne (L := L) (show (0 : Nat) ≠ 5 by decide), upd_ne (L := L) (show (12 : Nat) ≠ 5 by decide), upd_ne (L := L) (show (13 : Nat) ≠ 5 by decide), upd_ne (L := L) (show (14 : Nat) ≠ 5 by decide), updV_ne (xs := xs) (show (0 : Nat) ≠ 5 by decide), updV_ne (xs := xs) (show (12 : Nat) ≠ 5 by decide), updV_ne (xs := xs) (show (13 : Nat) ≠ 5 by decide), updV_ne (xs := xs) (show (14 : Nat) ≠ 5 by decide)]; exact h6)⟩
                            focus
                              obtain ⟨d5, _⟩ := hd
                              obtain ⟨ρ, hρ⟩ : ∃ ρ, a'.eval = ρ := ⟨_, rfl⟩
                              have hcst : ∀ v, ρ (.const v) = v := fun v => (congrFun hρ (.const v)).symm
                              have v5 : ρ (.tmp 80) = .pointer (some ⟨wB.heap.size, 0, none⟩) := (congrFun hρ (.tmp 80)).symm.trans ((HF.out.ev 5 rfl d5).trans (HVA.out 5 _ (by rw [HVV.out]; rfl) d5))
                              have e3 := (hb.cell (p := ⟨wB.heap.size, 0, none⟩) HQY.out).trans HE0L.out
                              rw [if_pos (by simp [Region.wanted])]
                              unfold Oper.wp
                              rw [hρ]
                              clear hρ
                              go_simp
                              exact hK.out _ _ ⟨HVA.out.set (i := 6) (by rw [HVV.out]; rfl), hb, (by simp only [upd_ne (L := L) (show (0 : Nat) ≠ 6 by decide), upd_ne (L := L) (show (12 : Nat) ≠ 6 by decide), upd_ne (L := L) (show (13 : Nat) ≠ 6 by decide), upd_ne (L := L) (show (14 : Nat) ≠ 6 by decide), updV_ne (xs := xs) (show (0 : Nat) ≠ 6 by decide), updV_ne (xs := xs) (show (12 : Nat) ≠ 6 by decide), updV_ne (xs := xs) (show (13 : Nat) ≠ 6 by decide), updV_ne (xs := xs) (show (14 : Nat) ≠ 6 by decide)]; exact h0), (by simp only [upd_ne (L := L) (show (0 : Nat) ≠ 6 by decide), upd_ne (L := L) (show (12 : Nat) ≠ 6 by decide), upd_ne (L := L) (show (13 : Nat) ≠ 6 by decide), upd_ne (L := L) (show (14 : Nat) ≠ 6 by decide), updV_ne (xs := xs) (show (0 : Nat) ≠ 6 by decide), updV_ne (xs := xs) (show (12 : Nat) ≠ 6 by decide), updV_ne (xs := xs) (show (13 : Nat) ≠ 6 by decide), updV_ne (xs := xs) (show (14 : Nat) ≠ 6 by decide)]; exact h2), (by simp only [upd_ne (L := L) (show (0 : Nat) ≠ 6 by decide), upd_ne (L := L) (show (12 : Nat) ≠ 6 by decide), upd_ne (L := L) (show (13 : Nat) ≠ 6 by decide), upd_ne (L := L) (show (14 : Nat) ≠ 6 by decide), updV_ne (xs := xs) (show (0 : Nat) ≠ 6 by decide), updV_ne (xs := xs) (show (12 : Nat) ≠ 6 by decide), updV_ne (xs := xs) (show (13 : Nat) ≠ 6 by decide), updV_ne (xs := xs) (show (14 : Nat) ≠ 6 by decide)]; exact h3), (by simp only [upd_ne (L := L) (show (0 : Nat) ≠ 6 by decide), upd_ne (L := L) (show (12 : Nat) ≠ 6 by decide), upd_ne (L := L) (show (13 : Nat) ≠ 6 by decide), upd_ne (L := L) (show (14 : Nat) ≠ 6 by decide), updV_ne (xs := xs) (show (0 : Nat) ≠ 6 by decide), updV_ne (xs := xs) (show (12 : Nat) ≠ 6 by decide), updV_ne (xs := xs) (show (13 : Nat) ≠ 6 by decide), updV_ne (xs := xs) (show (14 : Nat) ≠ 6 by decide)]; exact h4), (by simp only [upd_ne (L := L) (show (0 : Nat) ≠ 6 by decide), upd_ne (L := L) (show (12 : Nat) ≠ 6 by decide), upd_ne (L := L) (show (13 : Nat) ≠ 6 by decide), upd_ne (L := L) (show (14 : Nat) ≠ 6 by decide), updV_ne (xs := xs) (show (0 : Nat) ≠ 6 by decide), updV_ne (xs := xs) (show (12 : Nat) ≠ 6 by decide), updV_ne (xs := xs) (show (13 : Nat) ≠ 6 by decide), updV_ne (xs := xs) (show (14 : Nat) ≠ 6 by decide)]; exact h5), (by simp only [upd_ne (L := L) (show (0 : Nat) ≠ 6 by decide), upd_ne (L := L) (show (12 : Nat) ≠ 6 by decide), upd_ne (L := L) (show (13 : Nat) ≠ 6 by decide), upd_ne (L := L) (show (14 : Nat) ≠ 6 by decide), updV_ne (xs := xs) (show (0 : Nat) ≠ 6 by decide), updV_ne (xs := xs) (show (12 : Nat) ≠ 6 by decide), updV_ne (xs := xs) (show (13 : Nat) ≠ 6 by decide), updV_ne (xs := xs) (show (14 : Nat) ≠ 6 by decide)]; exact h6)⟩
                            focus
                              clear hd
                              obtain ⟨ρ, hρ⟩ : ∃ ρ, a'.eval = ρ := ⟨_, rfl⟩
                              have hcst : ∀ v, ρ (.const v) = v := fun v => (congrFun hρ (.const v)).symm
                              have l11 : ρ (.tmp 11) = .slice (some ⟨bp, op, none⟩) (permsOf (lotAt f.lots k)).length c12 := (congrFun hρ (.tmp 11)).symm.trans (HF.out.lo 11 rfl)
                              rw [if_pos (by simp [Region.wanted])]
                              unfold Oper.wp
                              rw [hρ]
                              clear hρ
                              go_simp
                              exact hK.out _ _ ⟨HVA.out.set (i := 7) (by rw [HVV.out]; rfl), hb, (by simp only [upd_ne (L := L) (show (0 : Nat) ≠ 7 by decide), upd_ne (L := L) (show (12 : Nat) ≠ 7 by decide), upd_ne (L := L) (show (13 : Nat) ≠ 7 by decide), upd_ne (L := L) (show (14 : Nat) ≠ 7 by decide), updV_ne (xs := xs) (show (0 : Nat) ≠ 7 by decide), updV_ne (xs := xs) (show (12 : Nat) ≠ 7 by decide), updV_ne (xs := xs) (show (13 : Nat) ≠ 7 by decide), updV_ne (xs := xs) (show (14 : Nat) ≠ 7 by decide)]; exact h0), (by simp only [upd_ne (L := L) (show (0 : Nat) ≠ 7 by decide), upd_ne (L := L) (show (12 : Nat) ≠ 7 by decide), upd_ne (L := L) (show (13 : Nat) ≠ 7 by decide), upd_ne (L := L) (show (14 : Nat) ≠ 7 by decide), updV_ne (xs := xs) (show (0 : Nat) ≠ 7 by decide), updV_ne (xs := xs) (show (12 : Nat) ≠ 7 by decide), updV_ne (xs := xs) (show (13 : Nat) ≠ 7 by decide), updV_ne (xs := xs) (show (14 : Nat) ≠ 7 by decide)]; exact h2), (by simp only [upd_ne (L := L) (show (0 : Nat) ≠ 7 by decide), upd_ne (L := L) (show (12 : Nat) ≠ 7 by decide), upd_ne (L := L) (show (13 : Nat) ≠ 7 by decide), upd_ne (L := L) (show (14 : Nat) ≠ 7 by decide), updV_ne (xs := xs) (show (0 : Nat) ≠ 7 by decide), updV_ne (xs := xs) (show (12 : Nat) ≠ 7 by decide), updV_ne (xs := xs) (show (13 : Nat) ≠ 7 by decide), updV_ne (xs := xs) (show (14 : Nat) ≠ 7 by decide)]; exact h3), (by simp only [upd_ne (L := L) (show (0 : Nat) ≠ 7 by decide), upd_ne (L := L) (show (12 : Nat) ≠ 7 by decide), upd_ne (L := L) (show (13 : Nat) ≠ 7 by decide), upd_ne (L := L) (show (14 : Nat) ≠ 7 by decide), updV_ne (xs := xs) (show (0 : Nat) ≠ 7 by decide), updV_ne (xs := xs) (show (12 : Nat) ≠ 7 by decide), updV_ne (xs := xs) (show (13 : Nat) ≠ 7 by decide), updV_ne (xs := xs) (show (14 : Nat) ≠ 7 by decide)]; exact h4), (by simp only [upd_ne (L := L) (show (0 : Nat) ≠ 7 by decide), upd_ne (L := L) (show (12 : Nat) ≠ 7 by decide), upd_ne (L := L) (show (13 : Nat) ≠ 7 by decide), upd_ne (L := L) (show (14 : Nat) ≠ 7 by decide), updV_ne (xs := xs) (show (0 : Nat) ≠ 7 by decide), updV_ne (xs := xs) (show (12 : Nat) ≠ 7 by decide), updV_ne (xs := xs) (show (13 : Nat) ≠ 7 by decide), updV_ne (xs := xs) (show (14 : Nat) ≠ 7 by decide)]; exact h5), (by simp only [upd_ne (L := L) (show (0 : Nat) ≠ 7 by decide), upd_ne (L := L) (show (12 : Nat) ≠ 7 by decide), upd_ne (L := L) (show (13 : Nat) ≠ 7 by decide), upd_ne (L := L) (show (14 : Nat) ≠ 7 by decide), updV_ne (xs := xs) (show (0 : Nat) ≠ 7 by decide), updV_ne (xs := xs) (show (12 : Nat) ≠ 7 by decide), updV_ne (xs := xs) (show (13 : Nat) ≠ 7 by decide), updV_ne (xs := xs) (show (14 : Nat) ≠ 7 by decide)]; exact h6)⟩
                            focus
                              clear hd
                              obtain ⟨ρ, hρ⟩ : ∃ ρ, a'.eval = ρ := ⟨_, rfl⟩
                              have hcst : ∀ v, ρ (.const v) = v := fun v => (congrFun hρ (.const v)).symm
                              have l14 : ρ (.tmp 14) = .int .i64 (j : Int) := (congrFun hρ (.tmp 14)).symm.trans (HF.out.lo 14 rfl)
                              rw [if_pos (by simp [Region.wanted])]
                              unfold Oper.wp
                              rw [hρ]
                              clear hρ
                              go_simp
                              exact hK.out _ _ ⟨HVA.out.set (i := 8) (by rw [HVV.out]; rfl), hb, (by simp only [upd_ne (L := L) (show (0 : Nat) ≠ 8 by decide), upd_ne (L := L) (show (12 : Nat) ≠ 8 by decide), upd_ne (L := L) (show (13 : Nat) ≠ 8 by decide), upd_ne (L := L) (show (14 : Nat) ≠ 8 by decide), updV_ne (xs := xs) (show (0 : Nat) ≠ 8 by decide), updV_ne (xs := xs) (show (12 : Nat) ≠ 8 by decide), updV_ne (xs := xs) (show (13 : Nat) ≠ 8 by decide), updV_ne (xs := xs) (show (14 : Nat) ≠ 8 by decide)]; exact h0), (by simp only [upd_ne (L := L) (show (0 : Nat) ≠ 8 by decide), upd_ne (L := L) (show (12 : Nat) ≠ 8 by decide), upd_ne (L := L) (show (13 : Nat) ≠ 8 by decide), upd_ne (L := L) (show (14 : Nat) ≠ 8 by decide), updV_ne (xs := xs) (show (0 : Nat) ≠ 8 by decide), updV_ne (xs := xs) (show (12 : Nat) ≠ 8 by decide), updV_ne (xs := xs) (show (13 : Nat) ≠ 8 by decide), updV_ne (xs := xs) (show (14 : Nat) ≠ 8 by decide)]; exact h2), (by simp only [upd_ne (L := L) (show (0 : Nat) ≠ 8 by decide), upd_ne (L := L) (show (12 : Nat) ≠ 8 by decide), upd_ne (L := L) (show (13 : Nat) ≠ 8 by decide), upd_ne (L := L) (show (14 : Nat) ≠ 8 by decide), updV_ne (xs := xs) (show (0 : Nat) ≠ 8 by decide), updV_ne (xs := xs) (show (12 : Nat) ≠ 8 by decide), updV_ne (xs := xs) (show (13 : Nat) ≠ 8 by decide), updV_ne (xs := xs) (show (14 : Nat) ≠ 8 by decide)]; exact h3), (by simp only [upd_ne (L := L) (show (0 : Nat) ≠ 8 by decide), upd_ne (L := L) (show (12 : Nat) ≠ 8 by decide), upd_ne (L := L) (show (13 : Nat) ≠ 8 by decide), upd_ne (L := L) (show (14 : Nat) ≠ 8 by decide), updV_ne (xs := xs) (show (0 : Nat) ≠ 8 by decide), updV_ne (xs := xs) (show (12 : Nat) ≠ 8 by decide), updV_ne (xs := xs) (show (13 : Nat) ≠ 8 by decide), updV_ne (xs := xs) (show (14 : Nat) ≠ 8 by decide)]; exact h4), (by simp only [upd_ne (L := L) (show (0 : Nat) ≠ 8 by decide), upd_ne (L := L) (show (12 : Nat) ≠ 8 by decide), upd_ne (L := L) (show (13 : Nat) ≠ 8 by decide), upd_ne (L := L) (show (14 : Nat) ≠ 8 by decide), updV_ne (xs := xs) (show (0 : Nat) ≠ 8 by decide), updV_ne (xs := xs) (show (12 : Nat) ≠ 8 by decide), updV_ne (xs := xs) (show (13 : Nat) ≠ 8 by decide), updV_ne (xs := xs) (show (14 : Nat) ≠ 8 by decide)]; exact h5), (by simp only [upd_ne (L := L) (show (0 : Nat) ≠ 8 by decide), upd_ne (L := L) (show (12 : Nat) ≠ 8 by decide), upd_ne (L := L) (show (13 : Nat) ≠ 8 by decide), upd_ne (L := L) (show (14 : Nat) ≠ 8 by decide), updV_ne (xs := xs) (show (0 : Nat) ≠ 8 by decide), updV_ne (xs := xs) (show (12 : Nat) ≠ 8 by decide), updV_ne (xs := xs) (show (13 : Nat) ≠ 8 by decide), updV_ne (xs := xs) (show (14 : Nat) ≠ 8 by decide)]; exact h6)⟩
                            focus
                              obtain ⟨d7, d8, _⟩ := hd
                              obtain ⟨ρ, hρ⟩ : ∃ ρ, a'.eval = ρ := ⟨_, rfl⟩
                              have hcst : ∀ v, ρ (.const v) = v := fun v => (congrFun hρ (.const v)).symm
                              have v7 : ρ (.tmp 82) = .slice (some ⟨bp, op, none⟩) (permsOf (lotAt f.lots k)).length c12 := (congrFun hρ (.tmp 82)).symm.trans ((HF.out.ev 7 rfl d7).trans (HVA.out 7 _ (by rw [HVV.out]; rfl) d7))
                              have v8 : ρ (.tmp 83) = .int .i64 (j : Int) := (congrFun hρ (.tmp 83)).symm.trans ((HF.out.ev 8 rfl d8).trans (HVA.out 8 _ (by rw [HVV.out]; rfl) d8))
                              rw [if_pos (by simp [Region.wanted])]
                              unfold Oper.wp
                              rw [hρ]
                              clear hρ
                              go_simp
                              exact hK.out _ _ ⟨HVA.out.set (i := 9) (by rw [HVV.out]; rfl), hb, (by simp only [upd_ne (L := L) (show (0 : Nat) ≠ 9 by decide), upd_ne (L := L) (show (12 : Nat) ≠ 9 by decide), upd_ne (L := L) (show (13 : Nat) ≠ 9 by decide), upd_ne (L := L) (show (14 : Nat) ≠ 9 by decide), updV_ne (xs := xs) (show (0 : Nat) ≠ 9 by decide), updV_ne (xs := xs) (show (12 : Nat) ≠ 9 by decide), updV_ne (xs := xs) (show (13 : Nat) ≠ 9 by decide), updV_ne (xs := xs) (show (14 : Nat) ≠ 9 by decide)]; exact h0), (by simp only [upd_ne (L := L) (show (0 : Nat) ≠ 9 by decide), upd_ne (L := L) (show (12 : Nat) ≠ 9 by decide), upd_ne (L := L) (show (13 : Nat) ≠ 9 by decide), upd_ne (L := L) (show (14 : Nat) ≠ 9 by decide), updV_ne (xs := xs) (show (0 : Nat) ≠ 9 by decide), updV_ne (xs := xs) (show (12 : Nat) ≠ 9 by decide), updV_ne (xs := xs) (show (13 : Nat) ≠ 9 by decide), updV_ne (xs := xs) (show (14 : Nat) ≠ 9 by decide)]; exact h2), (by simp only [upd_ne (L := L) (show (0 : Nat) ≠ 9 by decide), upd_ne (L := L) (show (12 : Nat) ≠ 9 by decide), upd_ne (L := L) (show (13 : Nat) ≠ 9 by decide), upd_ne (L := L) (show (14 : Nat) ≠ 9 by decide), updV_ne (xs := xs) (show (0 : Nat) ≠ 9 by decide), updV_ne (xs := xs) (show (12 : Nat) ≠ 9 by decide), updV_ne (xs := xs) (show (13 : Nat) ≠ 9 by decide), updV_ne (xs := xs) (show (14 : Nat) ≠ 9 by decide)]; exact h3), (by simp only [upd_ne (L := L) (show (0 : Nat) ≠ 9 by decide), upd_ne (L := L) (show (12 : Nat) ≠ 9 by decide), upd_ne (L := L) (show (13 : Nat) ≠ 9 by decide), upd_ne (L := L) (show (14 : Nat) ≠ 9 by decide), updV_ne (xs := xs) (show (0 : Nat) ≠ 9 by decide), updV_ne (xs := xs) (show (12 : Nat) ≠ 9 by decide), updV_ne (xs := xs) (show (13 : Nat) ≠ 9 by decide), updV_ne (xs := xs) (show (14 : Nat) ≠ 9 by decide)]; exact h4), (by simp only [upd_ne (L := L) (show (0 : Nat) ≠ 9 by decide), upd_ne (L := L) (show (12 : Nat) ≠ 9 by decide), upd_ne (L := L) (show (13 : Nat) ≠ 9 by decide), upd_ne (L := L) (show (14 : Nat) ≠ 9 by decide), updV_ne (xs := xs) (show (0 : Nat) ≠ 9 by decide), updV_ne (xs := xs) (show (12 : Nat) ≠ 9 by decide), updV_ne (xs := xs) (show (13 : Nat) ≠ 9 by decide), updV_ne (xs := xs) (show (14 : Nat) ≠ 9 by decide)]; exact h5), (by simp only [upd_ne (L := L) (show (0 : Nat) ≠ 9 by decide), upd_ne (L := L) (show (12 : Nat) ≠ 9 by decide), upd_ne (L := L) (show (13 : Nat) ≠ 9 by decide), upd_ne (L := L) (show (14 : Nat) ≠ 9 by decide), updV_ne (xs := xs) (show (0 : Nat) ≠ 9 by decide), updV_ne (xs := xs) (show (12 : Nat) ≠ 9 by decide), updV_ne (xs := xs) (show (13 : Nat) ≠ 9 by decide), updV_ne (xs := xs) (show (14 : Nat) ≠ 9 by decide)]; exact h6)⟩
                            focus
                              obtain ⟨d9, _⟩ := hd
                              obtain ⟨ρ, hρ⟩ : ∃ ρ, a'.eval = ρ := ⟨_, rfl⟩
                              have hcst : ∀ v, ρ (.const v) = v := fun v => (congrFun hρ (.const v)).symm
                              have v9 : ρ (.tmp 84) = .pointer (some ⟨bp, op + j, none⟩) := (congrFun hρ (.tmp 84)).symm.trans ((HF.out.ev 9 rfl d9).trans (HVA.out 9 _ (by rw [HVV.out]; rfl) d9))
                              have e3 := (hb.cell (p := ⟨bp, op + j, none⟩) HQP.out).trans HE2L.out
                              rw [if_pos (by simp [Region.wanted])]
                              unfold Oper.wp
                              rw [hρ]
                              clear hρ
                              go_simp
                              exact hK.out _ _ ⟨HVA.out.set (i := 10) (by rw [HVV.out]; rfl), hb, (by simp only [upd_ne (L := L) (show (0 : Nat) ≠ 10 by decide), upd_ne (L := L) (show (12 : Nat) ≠ 10 by decide), upd_ne (L := L) (show (13 : Nat) ≠ 10 by decide), upd_ne (L := L) (show (14 : Nat) ≠ 10 by decide), updV_ne (xs := xs) (show (0 : Nat) ≠ 10 by decide), updV_ne (xs := xs) (show (12 : Nat) ≠ 10 by decide), updV_ne (xs := xs) (show (13 : Nat) ≠ 10 by decide), updV_ne (xs := xs) (show (14 : Nat) ≠ 10 by decide)]; exact h0), (by simp only [upd_ne (L := L) (show (0 : Nat) ≠ 10 by decide), upd_ne (L := L) (show (12 : Nat) ≠ 10 by decide), upd_ne (L := L) (show (13 : Nat) ≠ 10 by decide), upd_ne (L := L) (show (14 : Nat) ≠ 10 by decide), updV_ne (xs := xs) (show (0 : Nat) ≠ 10 by decide), updV_ne (xs := xs) (show (12 : Nat) ≠ 10 by decide), updV_ne (xs := xs) (show (13 : Nat) ≠ 10 by decide), updV_ne (xs := xs) (show (14 : Nat) ≠ 10 by decide)]; exact h2), (by simp only [upd_ne (L := L) (show (0 : Nat) ≠ 10 by decide), upd_ne (L := L) (show (12 : Nat) ≠ 10 by decide), upd_ne (L := L) (show (13 : Nat) ≠ 10 by decide), upd_ne (L := L) (show (14 : Nat) ≠ 10 by decide), updV_ne (xs := xs) (show (0 : Nat) ≠ 10 by decide), updV_ne (xs := xs) (show (12 : Nat) ≠ 10 by decide), updV_ne (xs := xs) (show (13 : Nat) ≠ 10 by decide), updV_ne (xs := xs) (show (14 : Nat) ≠ 10 by decide)]; exact h3), (by simp only [upd_ne (L := L) (show (0 : Nat) ≠ 10 by decide), upd_ne (L := L) (show (12 : Nat) ≠ 10 by decide), upd_ne (L := L) (show (13 : Nat) ≠ 10 by decide), upd_ne (L := L) (show (14 : Nat) ≠ 10 by decide), updV_ne (xs := xs) (show (0 : Nat) ≠ 10 by decide), updV_ne (xs := xs) (show (12 : Nat) ≠ 10 by decide), updV_ne (xs := xs) (show (13 : Nat) ≠ 10 by decide), updV_ne (xs := xs) (show (14 : Nat) ≠ 10 by decide)]; exact h4), (by simp only [upd_ne (L := L) (show (0 : Nat) ≠ 10 by decide), upd_ne (L := L) (show (12 : Nat) ≠ 10 by decide), upd_ne (L := L) (show (13 : Nat) ≠ 10 by decide), upd_ne (L := L) (show (14 : Nat) ≠ 10 by decide), updV_ne (xs := xs) (show (0 : Nat) ≠ 10 by decide), updV_ne (xs := xs) (show (12 : Nat) ≠ 10 by decide), updV_ne (xs := xs) (show (13 : Nat) ≠ 10 by decide), updV_ne (xs := xs) (show (14 : Nat) ≠ 10 by decide)]; exact h5), (by simp only [upd_ne (L := L) (show (0 : Nat) ≠ 10 by decide), upd_ne (L := L) (show (12 : Nat) ≠ 10 by decide), upd_ne (L := L) (show (13 : Nat) ≠ 10 by decide), upd_ne (L := L) (show (14 : Nat) ≠ 10 by decide), updV_ne (xs := xs) (show (0 : Nat) ≠ 10 by decide), updV_ne (xs := xs) (show (12 : Nat) ≠ 10 by decide), updV_ne (xs := xs) (show (13 : Nat) ≠ 10 by decide), updV_ne (xs := xs) (show (14 : Nat) ≠ 10 by decide)]; exact h6)⟩
                            focus
                              clear hd
                              obtain ⟨ρ, hρ⟩ : ∃ ρ, a'.eval = ρ := ⟨_, rfl⟩
                              have hcst : ∀ v, ρ (.const v) = v := fun v => (congrFun hρ (.const v)).symm
                              have l10 : ρ (.tmp 10) = .int .i64 (beforeI f k) := (congrFun hρ (.tmp 10)).symm.trans (HF.out.lo 10 rfl)
                              rw [if_pos (by simp [Region.wanted])]
                              unfold Oper.wp
                              rw [hρ]
                              clear hρ
                              go_simp
                              exact hK.out _ _ ⟨HVA.out.set (i := 11) (by rw [HVV.out]; rfl), hb, (by simp only [upd_ne (L := L) (show (0 : Nat) ≠ 11 by decide), upd_ne (L := L) (show (12 : Nat) ≠ 11 by decide), upd_ne (L := L) (show (13 : Nat) ≠ 11 by decide), upd_ne (L := L) (show (14 : Nat) ≠ 11 by decide), updV_ne (xs := xs) (show (0 : Nat) ≠ 11 by decide), updV_ne (xs := xs) (show (12 : Nat) ≠ 11 by decide), updV_ne (xs := xs) (show (13 : Nat) ≠ 11 by decide), updV_ne (xs := xs) (show (14 : Nat) ≠ 11 by decide)]; exact h0), (by simp only [upd_ne (L := L) (show (0 : Nat) ≠ 11 by decide), upd_ne (L := L) (show (12 : Nat) ≠ 11 by decide), upd_ne (L := L) (show (13 : Nat) ≠ 11 by decide), upd_ne (L := L) (show (14 : Nat) ≠ 11 by decide), updV_ne (xs := xs) (show (0 : Nat) ≠ 11 by decide), updV_ne (xs := xs) (show (12 : Nat) ≠ 11 by decide), updV_ne (xs := xs) (show (13 : Nat) ≠ 11 by decide), updV_ne (xs := xs) (show (14 : Nat) ≠ 11 by decide)]; exact h2), (by simp only [upd_ne (L := L) (show (0 : Nat) ≠ 11 by decide), upd_ne (L := L) (show (12 : Nat) ≠ 11 by decide), upd_ne (L := L) (show (13 : Nat) ≠ 11 by decide), upd_ne (L := L) (show (14 : Nat) ≠ 11 by decide), updV_ne (xs := xs) (show (0 : Nat) ≠ 11 by decide), updV_ne (xs := xs) (show (12 : Nat) ≠ 11 by decide), updV_ne (xs := xs) (show (13 : Nat) ≠ 11 by decide), updV_ne (xs := xs) (show (14 : Nat) ≠ 11 by decide)]; exact h3), (by simp only [upd_ne (L := L) (show (0 : Nat) ≠ 11 by decide), upd_ne (L := L) (show (12 : Nat) ≠ 11 by decide), upd_ne (L := L) (show (13 : Nat) ≠ 11 by decide), upd_ne (L := L) (show (14 : Nat) ≠ 11 by decide), updV_ne (xs := xs) (show (0 : Nat) ≠ 11 by decide), updV_ne (xs := xs) (show (12 : Nat) ≠ 11 by decide), updV_ne (xs := xs) (show (13 : Nat) ≠ 11 by decide), updV_ne (xs := xs) (show (14 : Nat) ≠ 11 by decide)]; exact h4), (by simp only [upd_ne (L := L) (show (0 : Nat) ≠ 11 by decide), upd_ne (L := L) (show (12 : Nat) ≠ 11 by decide), upd_ne (L := L) (show (13 : Nat) ≠ 11 by decide), upd_ne (L := L) (show (14 : Nat) ≠ 11 by decide), updV_ne (xs := xs) (show (0 : Nat) ≠ 11 by decide), updV_ne (xs := xs) (show (12 : Nat) ≠ 11 by decide), updV_ne (xs := xs) (show (13 : Nat) ≠ 11 by decide), updV_ne (xs := xs) (show (14 : Nat) ≠ 11 by decide)]; exact h5), (by simp only [upd_ne (L := L) (show (0 : Nat) ≠ 11 by decide), upd_ne (L := L) (show (12 : Nat) ≠ 11 by decide), upd_ne (L := L) (show (13 : Nat) ≠ 11 by decide), upd_ne (L := L) (show (14 : Nat) ≠ 11 by decide), updV_ne (xs := xs) (show (0 : Nat) ≠ 11 by decide), updV_ne (xs := xs) (show (12 : Nat) ≠ 11 by decide), updV_ne (xs := xs) (show (13 : Nat) ≠ 11 by decide), updV_ne (xs := xs) (show (14 : Nat) ≠ 11 by decide)]; exact h6)⟩
                            focus
                              obtain ⟨d4, d6, d10, d11, _⟩ := hd
                              obtain ⟨ρ, hρ⟩ : ∃ ρ, a'.eval = ρ := ⟨_, rfl⟩
                              have hcst : ∀ v, ρ (.const v) = v := fun v => (congrFun hρ (.const v)).symm
                              have hfun : ∀ k, ρ (.func k) = .func (.func k) #[] #[] := fun k => (congrFun hρ (.func k)).symm
                              have v4 : ρ (.tmp 79) = .slice ar (rowAt (asgTo f k) i).length cr := (congrFun hρ (.tmp 79)).symm.trans ((HF.out.ev 4 rfl d4).trans (HVA.out 4 _ (by rw [HVV.out]; rfl) d4))
                              have v6 : ρ (.tmp 81) = .slice ai (lotAt f.lots k).ins.length ci := (congrFun hρ (.tmp 81)).symm.trans ((HF.out.ev 6 rfl d6).trans (HVA.out 6 _ (by rw [HVV.out]; rfl) d6))
                              have v10 : ρ (.tmp 85) = .slice aq (rowAt (permsOf (lotAt f.lots k)) j).length cq := (congrFun hρ (.tmp 85)).symm.trans ((HF.out.ev 10 rfl d10).trans (HVA.out 10 _ (by rw [HVV.out]; rfl) d10))
                              have v11 : ρ (.tmp 86) = .int .i64 (beforeI f k) := (congrFun hρ (.tmp 86)).symm.trans ((HF.out.ev 11 rfl d11).trans (HVA.out 11 _ (by rw [HVV.out]; rfl) d11))
                              rw [if_pos (by simp [Region.wanted])]
                              unfold Oper.wp
                              rw [hρ]
                              clear hρ
                              have h13 : L 13 = false := by
                                cases h : L 13 with
                                | false => rfl
                                | true => have := h4 h; rw [HLI.out] at this; cases this
                              have HMV2 := Lib.hid (HMVW.out w' hb)
                              have HB2 := Lib.hid (h2 h13)
                              have H0 := Lib.hid h0
                              have H5 := Lib.hid h5
                              have H6 := Lib.hid h6
                              have H13 := Lib.hid h13
                              clear h0 h2 h3 h4 h5 h6 h13
                              go_simp
                              go_at_call 51
                              refine HMV2.out.mono ?_
                              rintro e w13 ⟨v13, rfl, ho13, hb13⟩
                              obtain ⟨a13, c13, rfl, _⟩ := ho13.form
                              have HB13 := Lib.hid hb13
                              have HO13 : Hid (OwnInts w12.heap.size w13 (.slice a13 _ c13) _) := Lib.hid (ho13.mono hb.size)
                              clear hb13 ho13
                              exact hK.out _ _ ⟨HVA.out.free (i := 12) (by rw [HVV.out]; rfl) _, hb.trans (HB13.out.mono hb.size), (by simp only [upd_ne (L := L) (show (0 : Nat) ≠ 12 by decide), upd_ne (L := L) (show (13 : Nat) ≠ 12 by decide), upd_ne (L := L) (show (14 : Nat) ≠ 12 by decide), updV_ne (xs := xs) (show (0 : Nat) ≠ 12 by decide), updV_ne (xs := xs) (show (13 : Nat) ≠ 12 by decide), updV_ne (xs := xs) (show (14 : Nat) ≠ 12 by decide), upd_self, updV_self]; exact H0.out), (fun _ => HB2.out.trans (HB13.out.mono HB2.out.size)), (fun _ _ => ⟨a13, c13, updV_self _ _ _, HO13.out⟩), (fun h => by simp only [upd_ne (L := L) (show (13 : Nat) ≠ 12 by decide)] at h; rw [H13.out] at h; cases h), (fun h => by simp only [upd_ne (L := L) (show (13 : Nat) ≠ 12 by decide)] at h; rw [H13.out] at h; cases h), (by simp only [upd_ne (L := L) (show (0 : Nat) ≠ 12 by decide), upd_ne (L := L) (show (13 : Nat) ≠ 12 by decide), upd_ne (L := L) (show (14 : Nat) ≠ 12 by decide), updV_ne (xs := xs) (show (0 : Nat) ≠ 12 by decide), updV_ne (xs := xs) (show (13 : Nat) ≠ 12 by decide), updV_ne (xs := xs) (show (14 : Nat) ≠ 12 by decide), upd_self, updV_self]; exact H6.out)⟩
                            focus
                              obtain ⟨d0, d12, _, _⟩ := hd
                              obtain ⟨ρ, hρ⟩ : ∃ ρ, a'.eval = ρ := ⟨_, rfl⟩
                              have hcst : ∀ v, ρ (.const v) = v := fun v => (congrFun hρ (.const v)).symm
                              have hfun : ∀ k, ρ (.func k) = .func (.func k) #[] #[] := fun k => (congrFun hρ (.func k)).symm
                              have v0 : ρ (.tmp 75) = .slice an (parTo f k i j).length cn := (congrFun hρ (.tmp 75)).symm.trans ((HF.out.ev 0 rfl d0).trans (HVA.out 0 _ (by rw [HVV.out]; rfl) d0))
                              have v12 : ρ (.tmp 87) = xs 12 := (congrFun hρ (.tmp 87)).symm.trans (HF.out.ev 12 rfl d12)
                              rw [if_pos (by simp [Region.wanted])]
                              unfold Oper.wp
                              rw [hρ]
                              clear hρ
                              obtain ⟨a13, c13, ex12, ho13⟩ := h3 d12 HLI.out
                              rw [ex12] at v12
                              have HO13 := Lib.hid ho13
                              have HB2 := Lib.hid (h2 HLI.out)
                              have HL14 : Hid (L 14 = true → false = true) := Lib.hid (fun h => by have := (h6 h).1; rw [HLI.out] at this; exact this)
                              have HD0 := Lib.hid d0
                              have HD12 := Lib.hid d12
                              clear h0 h2 h3 h4 h5 h6 ho13 ex12
                              have HPUT := Lib.hid (put_any w12.heap.size w' _ _ _ _ (HNM2.out.below HB2.out) HO13.out hb.size HPOK.out.1 (fun a ha => by rw [HMVL.out]; exact HPOK.out.2.1 a ha) (by have h1 := HPOK.out.2.2; have h2 := asg_8 h0' h8 (k := k + 1) HLK1.out; omega))
                              rw [← HSTEP.out] at HPUT
                              go_simp
                              go_at_call 24
                              refine HPUT.out.mono ?_
                              rintro e w14 ⟨v14, rfl, ho14, hg14, _⟩
                              obtain ⟨a14, c14, rfl, _⟩ := ho14.form
                              have HO14 := Lib.hid ho14
                              have HB14 : Hid (Below w12.heap.size w12 w14) := Lib.hid (hb.grown hg14 hb.size (fun q hq => (HNL.out q hq).1))
                              clear ho14 hg14
                              exact hK.out _ _ ⟨HVA.out.free (i := 13) (by rw [HVV.out]; rfl) _, HB14.out, (by simp only [upd_ne (L := L) (show (0 : Nat) ≠ 13 by decide), upd_ne (L := L) (show (12 : Nat) ≠ 13 by decide), upd_ne (L := L) (show (14 : Nat) ≠ 13 by decide), updV_ne (xs := xs) (show (0 : Nat) ≠ 13 by decide), updV_ne (xs := xs) (show (12 : Nat) ≠ 13 by decide), updV_ne (xs := xs) (show (14 : Nat) ≠ 13 by decide), upd_self, updV_self]; exact fun _ => HD0.out), (fun h => by rw [upd_self] at h; cases h), (fun _ h => by rw [upd_self] at h; cases h), (by simp only [upd_ne (L := L) (show (0 : Nat) ≠ 13 by decide), upd_ne (L := L) (show (12 : Nat) ≠ 13 by decide), upd_ne (L := L) (show (14 : Nat) ≠ 13 by decide), updV_ne (xs := xs) (show (0 : Nat) ≠ 13 by decide), updV_ne (xs := xs) (show (12 : Nat) ≠ 13 by decide), updV_ne (xs := xs) (show (14 : Nat) ≠ 13 by decide), upd_self, updV_self]; exact fun _ => HD12.out), (fun _ => ⟨a14, c14, updV_self _ _ _, HO14.out⟩), (fun h => by simp only [upd_ne (L := L) (show (14 : Nat) ≠ 13 by decide)] at h; exact absurd (HL14.out h) (by decide))⟩
                            focus
                              obtain ⟨d13, _, d0, d1, d2, d3, d4, d5, d6, d7, d8, d9, d10, d11, d12, _, _⟩ := hd
                              obtain ⟨ρ, hρ⟩ : ∃ ρ, a'.eval = ρ := ⟨_, rfl⟩
                              have hcst : ∀ v, ρ (.const v) = v := fun v => (congrFun hρ (.const v)).symm
                              have v13 : ρ (.tmp 88) = xs 13 := (congrFun hρ (.tmp 88)).symm.trans (HF.out.ev 13 rfl d13)
                              rw [if_pos (by simp [Region.wanted])]
                              unfold Oper.wp
                              rw [hρ]
                              clear hρ
                              obtain ⟨a14, c14, ex13, ho14⟩ := h5 d13
                              rw [ex13] at v13
                              have EX := Lib.hid ex13
                              have H2 := Lib.hid h2
                              have H3 := Lib.hid h3
                              have H4 := Lib.hid h4
                              have HO14 := Lib.hid ho14
                              have HD0 := Lib.hid d0
                              have HD13 := Lib.hid d13
                              clear h0 h2 h3 h4 h5 h6 ex13 ho14
                              go_simp
                              exact hK.out _ _ ⟨HVA.out.free (i := 14) (by rw [HVV.out]; rfl) _, hb, (by simp only [upd_ne (L := L) (show (0 : Nat) ≠ 14 by decide), upd_ne (L := L) (show (12 : Nat) ≠ 14 by decide), upd_ne (L := L) (show (13 : Nat) ≠ 14 by decide), updV_ne (xs := xs) (show (0 : Nat) ≠ 14 by decide), updV_ne (xs := xs) (show (12 : Nat) ≠ 14 by decide), updV_ne (xs := xs) (show (13 : Nat) ≠ 14 by decide), upd_self, updV_self]; exact fun _ => HD0.out), (by simp only [upd_ne (L := L) (show (0 : Nat) ≠ 14 by decide), upd_ne (L := L) (show (12 : Nat) ≠ 14 by decide), upd_ne (L := L) (show (13 : Nat) ≠ 14 by decide), updV_ne (xs := xs) (show (0 : Nat) ≠ 14 by decide), updV_ne (xs := xs) (show (12 : Nat) ≠ 14 by decide), updV_ne (xs := xs) (show (13 : Nat) ≠ 14 by decide), upd_self, updV_self]; exact H2.out), (by simp only [upd_ne (L := L) (show (0 : Nat) ≠ 14 by decide), upd_ne (L := L) (show (12 : Nat) ≠ 14 by decide), upd_ne (L := L) (show (13 : Nat) ≠ 14 by decide), updV_ne (xs := xs) (show (0 : Nat) ≠ 14 by decide), updV_ne (xs := xs) (show (12 : Nat) ≠ 14 by decide), updV_ne (xs := xs) (show (13 : Nat) ≠ 14 by decide), upd_self, updV_self]; exact H3.out), (by simp only [upd_ne (L := L) (show (0 : Nat) ≠ 14 by decide), upd_ne (L := L) (show (12 : Nat) ≠ 14 by decide), upd_ne (L := L) (show (13 : Nat) ≠ 14 by decide), updV_ne (xs := xs) (show (0 : Nat) ≠ 14 by decide), updV_ne (xs := xs) (show (12 : Nat) ≠ 14 by decide), updV_ne (xs := xs) (show (13 : Nat) ≠ 14 by decide), upd_self, updV_self]; exact H4.out), (by simp only [upd_ne (L := L) (show (0 : Nat) ≠ 14 by decide), upd_ne (L := L) (show (12 : Nat) ≠ 14 by decide), upd_ne (L := L) (show (13 : Nat) ≠ 14 by decide), updV_ne (xs := xs) (show (0 : Nat) ≠ 14 by decide), updV_ne (xs := xs) (show (12 : Nat) ≠ 14 by decide), updV_ne (xs := xs) (show (13 : Nat) ≠ 14 by decide), upd_self, updV_self]; exact fun _ => ⟨a14, c14, EX.out, HO14.out⟩), (by simp only [upd_ne (L := L) (show (0 : Nat) ≠ 14 by decide), upd_ne (L := L) (show (12 : Nat) ≠ 14 by decide), upd_ne (L := L) (show (13 : Nat) ≠ 14 by decide), updV_ne (xs := xs) (show (0 : Nat) ≠ 14 by decide), updV_ne (xs := xs) (show (12 : Nat) ≠ 14 by decide), updV_ne (xs := xs) (show (13 : Nat) ≠ 14 by decide), upd_self, updV_self]; exact fun _ => ⟨HD13.out, EX.out.symm⟩)⟩
                          focus
                            intro L w' xs hL hJ
                            obtain ⟨hv, hb, h0, h2, h3, h4, h5, h6⟩ := hJ
                            have e0 : xs 0 = .slice an (parTo f k i j).length cn := hv 0 _ (by rw [HVV.out]; rfl) (hL 0 (by decide))
                            have e1 : xs 1 = .slice (some ⟨bl, ol, none⟩) (asgTo f k).length cl := hv 1 _ (by rw [HVV.out]; rfl) (hL 1 (by decide))
                            have e2 : xs 2 = .int .i64 (i : Int) := hv 2 _ (by rw [HVV.out]; rfl) (hL 2 (by decide))
                            have e3 : xs 3 = .pointer (some ⟨bl, ol + i, none⟩) := hv 3 _ (by rw [HVV.out]; rfl) (hL 3 (by decide))
                            have e4 : xs 4 = .slice ar (rowAt (asgTo f k) i).length cr := hv 4 _ (by rw [HVV.out]; rfl) (hL 4 (by decide))
                            have e5 : xs 5 = .pointer (some ⟨wB.heap.size, 0, none⟩) := hv 5 _ (by rw [HVV.out]; rfl) (hL 5 (by decide))
                            have e6 : xs 6 = .slice ai (lotAt f.lots k).ins.length ci := hv 6 _ (by rw [HVV.out]; rfl) (hL 6 (by decide))
                            have e7 : xs 7 = .slice (some ⟨bp, op, none⟩) (permsOf (lotAt f.lots k)).length c12 := hv 7 _ (by rw [HVV.out]; rfl) (hL 7 (by decide))
                            have e8 : xs 8 = .int .i64 (j : Int) := hv 8 _ (by rw [HVV.out]; rfl) (hL 8 (by decide))
                            have e9 : xs 9 = .pointer (some ⟨bp, op + j, none⟩) := hv 9 _ (by rw [HVV.out]; rfl) (hL 9 (by decide))
                            have e10 : xs 10 = .slice aq (rowAt (permsOf (lotAt f.lots k)) j).length cq := hv 10 _ (by rw [HVV.out]; rfl) (hL 10 (by decide))
                            have e11 : xs 11 = .int .i64 (beforeI f k) := hv 11 _ (by rw [HVV.out]; rfl) (hL 11 (by decide))
                            simp only [putGo, Act.put, List.setIfInBounds_toArray, List.set_cons_zero, List.set_cons_succ, e0, e1, e2, e3, e4, e5, e6, e7, e8, e9, e10, e11]
                            clear hv e0 e1 e2 e3 e4 e5 e6 e7 e8 e9 e10 e11
                          obtain ⟨a14, c14, ex13, ho14⟩ := h5 (hL 13 (by decide))
                          have ex14 := (h6 (hL 14 (by decide))).2
                          rw [ex14]
                          simp only [ex13]
                          have HO14 := Lib.hid ho14
                          have HB14 := Lib.hid hb
                          clear h0 h2 h3 h4 h5 h6 hL ex13 ex14 ho14 hb
                          go_wp2
                          go_roundw
                          case rel => exact ⟨j + 1, by omega, by go_num, HO14.out, HB14.out⟩
                          case measure => simp [intOf]; omega
                        · have hjl' : decide ((j : Int) < (permsOf (lotAt f.lots k)).length) = false := decide_eq_false (by omega)
                          obtain rfl : j = (permsOf (lotAt f.lots k)).length := by omega
                          have HROW := Lib.hid (parTo_row hil)
                          go_wp2
                          go_roundw
                          case rel => exact ⟨i + 1, by omega, by go_num, by rw [← HROW.out]; exact HNM2.out, HNB2.out⟩
                          case measure => simp [intOf]; omega
                    · have hil' : decide ((i : Int) < (asgTo f k).length) = false := decide_eq_false (by omega)
                      obtain rfl : i = (asgTo f k).length := by omega
                      obtain ⟨an, cn, rfl, _⟩ := HNM.out.form
                      rw [parTo_end] at HNM ⊢
                      have HB15 : Hid (Below w.heap.size w wC) := Lib.hid (HBB.out.trans ((HB12.out.trans (HNB.out.mono HB12.out.size)).mono HBB.out.size))
                      have HO15 : Hid (OwnMat w.heap.size wC (.slice an (asgTo f (k + 1)).length cn) (asgTo f (k + 1))) := Lib.hid (HNM.out.mono (Nat.le_trans HBB.out.size HB12.out.size))
                      by_cases hfew : 5040 < (asgTo f (k + 1)).length
                      · have hfew' : decide (5040 < ((asgTo f (k + 1)).length : Int)) = true := decide_eq_true (by omega)
                        have HE : Hid (allE f = 2) := Lib.hid (by rw [HE1.out, many_at hfew hlt]; rfl)
                        have HR : Hid (allR f = []) := Lib.hid (by rw [HRR.out, HE.out]; rfl)
                        go_wp2
                        go_ret2
                        exact ⟨.slice none 0 0, by rw [HE.out]; rfl, by rw [HR.out]; exact OwnMat.nil _ _, HB15.out⟩
                      · have hfew' : decide (5040 < ((asgTo f (k + 1)).length : Int)) = false := decide_eq_false (by omega)
                        have HMY1 : Hid (manyTo f (k + 1) = false) := Lib.hid (by simp only [manyTo, HMY.out, Bool.false_or]; exact decide_eq_false hfew)
                        have HBX15 := Lib.hid (HBX.out.ext (HB12.out.trans (HNB.out.mono HB12.out.size)))
                        go_wp2
                        go_roundw
                        case rel => exact ⟨k + 1, by omega, by go_num, ⟨HO15.out, HMY1.out, HB15.out⟩, HBX15.out⟩
                        case measure => simp [intOf]; omega
                · rw [hkn] at d2
                  go_wp2_with fail
                  refine (HBEF.out _ (HBB.out.alloc (by have := HBB.out.size; omega) _)).mono ?_
                  rintro e w10 ⟨rfl, hb10⟩

                  have HB10 := Lib.hid ((box_below' wB _).trans (hb10.mono (by simp)))
                  have HLB10 := Lib.hid ((Box.new wB #[.slice ai (lotAt f.lots k).ins.length ci, .bool true, .slice ap (lotAt f.lots k).perm.length cp] 39).ext hb10)
                  obtain ⟨zy, ry⟩ := HLB10.out
                  clear hb10
                  have HPO : Hid (permsOf (lotAt f.lots k) = [(lotAt f.lots k).perm]) := Lib.hid (by unfold permsOf; rw [hkn]; rfl)
                  have HPM0 := Lib.hid (isMat_one (HLP.out.below (HBB.out.trans (HB10.out.mono HBB.out.size)) hB) (Nat.le_trans hB (Nat.le_trans HBB.out.size HB10.out.size)))
                  rw [← HPO.out] at HPM0
                  go_wp2
                  obtain ⟨w12, hw12⟩ : ∃ W, w10.alloc (.cells #[.slice ap (lotAt f.lots k).perm.length cp] 34) = W := ⟨_, rfl⟩
                  have hz12 : w12.heap.size = w10.heap.size + 1 := by rw [← hw12]; simp
                  rw [hw12] at HPM0 ⊢
                  rw [← hz12] at HPM0
                  have HB1012 : Hid (Below w10.heap.size w10 w12) := Lib.hid (by rw [← hw12]; exact box_below' _ _)
                  have HB12 : Hid (Below wB.heap.size wB w12) := Lib.hid (HB10.out.trans (HB1012.out.mono HB10.out.size))
                  have HPL1 : Hid ((permsOf (lotAt f.lots k)).length = 1) := Lib.hid (by rw [HPO.out]; rfl)
                  clear hw12 zy ry
                  have HPM : Hid (IsMat w12.heap.size w12 (.slice (some ⟨w10.heap.size, 0, none⟩) 1 1) (permsOf (lotAt f.lots k))) := HPM0
                  have HLM := Lib.hid (HM.out.below HB12.out).isMat
                  have HLB12 := Lib.hid (HLB10.out.ext HB1012.out)
                  have HLI12 := Lib.hid ((HLI.out.below (HBB.out.trans (HB12.out.mono HBB.out.size)) hB).mono (Nat.le_trans hB (Nat.le_trans HBB.out.size HB12.out.size)))
                  clear HLB10 HBEF
                  go_loopw [12, 13] (fun vn vi wr => ∃ i : Nat, i ≤ (asgTo f k).length ∧ vi = .int .i64 i ∧ NextRel w12 f k i 0 vn wr) (fun _ vi _ => (asgTo f k).length - (intOf vi).toNat)
                  case atStart => exact ⟨0, by omega, rfl, by rw [parTo_zero]; exact OwnMat.nil _ _, Below.refl _ _⟩
                  case round =>
                    obtain ⟨i, hi, rfl, hnm, hnb⟩ := hrel
                    obtain ⟨wC, rfl⟩ : ∃ W, W = wr := ⟨_, rfl⟩
                    have HNM := Lib.hid hnm
                    have HNB := Lib.hid hnb
                    clear hnm hnb
                    by_cases hil : i < (asgTo f k).length
                    · have hil' : decide ((i : Int) < (asgTo f k).length) = true := decide_eq_true (by omega)
                      go_wp2
                      go_loopw [12, 14] (fun vn vj wr => ∃ j : Nat, j ≤ (permsOf (lotAt f.lots k)).length ∧ vj = .int .i64 j ∧ NextRel w12 f k i j vn wr) (fun _ vj _ => (permsOf (lotAt f.lots k)).length - (intOf vj).toNat)
                      case atStart => exact ⟨0, by omega, rfl, HNM.out, HNB.out⟩
                      case round =>
                        obtain ⟨j, hj, rfl, hnm, hnb⟩ := hrel
                        obtain ⟨an, cn, rfl, hnl⟩ := hnm.form
                        have HNL := Lib.hid hnl
                        have HNM2 := Lib.hid hnm
                        have HNB2 := Lib.hid hnb
                        clear hnm hnb hnl HNM HNB
                        by_cases hjl : j < (permsOf (lotAt f.lots k)).length
                        · have hjl' : decide ((j : Int) < 1) = true := decide_eq_true (by have := HPL1.out; omega)
                          obtain ⟨bl, ol, rfl, hlc⟩ := HLM.out.cells (by omega)
                          obtain ⟨bp, op, hape, hpc⟩ := HPM.out.cells (by omega)
                          obtain ⟨rl, ql, il⟩ := hlc i hil
                          obtain ⟨rp, qp, ip⟩ := hpc j hjl
                          simp only [Option.some.injEq, Addr.mk.injEq, and_true] at hape
                          obtain ⟨rfl, rfl⟩ := hape
                          obtain ⟨ar, cr, rfl⟩ := il.form
                          obtain ⟨aq, cq, rfl⟩ := ip.form
                          have HQL := Lib.hid ql.1
                          have HE1L := Lib.hid ql.2
                          rw [Nat.zero_add] at qp
                          have HQP := Lib.hid qp.1
                          have HE2L := Lib.hid qp.2
                          have HQY := Lib.hid HLB12.out.1
                          have HE0L : Hid (w12.cell? ⟨wB.heap.size, 0, none⟩ = some (.slice ai (lotAt f.lots k).ins.length ci)) := Lib.hid (HLB12.out.2 0)
                          have HMVW := Lib.hid (fun W (hbd : Below w12.heap.size w12 W) => moved_any w12.heap.size W _ _ _ (rowAt (asgTo f k) i) (lotAt f.lots k).ins (rowAt (permsOf (lotAt f.lots k)) j) (beforeI f k)
                            (il.below hbd (Nat.le_refl _)) (HLI12.out.below hbd (Nat.le_refl _)) (ip.below hbd (Nat.le_refl _)) hbd.size HIND.out (HPML.out j hjl).1 HBF.out.1 HBF.out.2 (HPML.out j hjl).2)
                          have HSTEP := Lib.hid (parTo_step (f := f) (k := k) (i := i) hjl)
                          have HPOK := Lib.hid (parTo_ok (f := f) (k := k) (i := i) (j := j) (.inl hil))
                          have HMVL : Hid ((moveL (lotAt f.lots k).ins (rowAt (permsOf (lotAt f.lots k)) j) (beforeI f k) (rowAt (asgTo f k) i)).length = f.senders.toNat) := Lib.hid (by rw [moveL_len, rowAt_get hil]; exact asg_len k _ (List.getElem_mem hil))
                          clear hlc hpc ql qp il ip
                          go_wp2
                          obtain ⟨V, hV⟩ : ∃ V : List (Option Value), V = [some (.slice an (parTo f k i j).length cn), some (.slice (some ⟨bl, ol, none⟩) (asgTo f k).length cl), some (.int .i64 (i : Int)), some (.pointer (some ⟨bl, ol + i, none⟩)), some (.slice ar (rowAt (asgTo f k) i).length cr), some (.pointer (some ⟨wB.heap.size, 0, none⟩)), some (.slice ai (lotAt f.lots k).ins.length ci), some (.slice (some ⟨w10.heap.size, 0, none⟩) 1 1), some (.int .i64 (j : Int)), some (.pointer (some ⟨w10.heap.size, j, none⟩)), some (.slice aq (rowAt (permsOf (lotAt f.lots k)) j).length cq), some (.int .i64 (beforeI f k)), none, none, none] := ⟨_, rfl⟩
                          have HVV := Lib.hid hV
                          clear hV
                          refine wp_region_V [some 75, some 76, some 77, some 78, some 79, some 80, some 81, some 82, some 83, some 84, some 85, some 86, some 87, some 88, some 12] (fun L w' xs => ValsAt V L xs ∧ (Below w12.heap.size w12 w' ∧ (L 14 = true → L 0 = true) ∧ (L 13 = false → Below wr.heap.size wr w') ∧ (L 12 = true → L 13 = false → ∃ a c, xs 12 = .slice a (moveL (lotAt f.lots k).ins (rowAt (permsOf (lotAt f.lots k)) j) (beforeI f k) (rowAt (asgTo f k) i)).length c ∧ OwnInts w12.heap.size w' (.slice a (moveL (lotAt f.lots k).ins (rowAt (permsOf (lotAt f.lots k)) j) (beforeI f k) (rowAt (asgTo f k) i)).length c) (moveL (lotAt f.lots k).ins (rowAt (permsOf (lotAt f.lots k)) j) (beforeI f k) (rowAt (asgTo f k) i))) ∧ (L 13 = true → L 12 = true) ∧ (L 13 = true → ∃ a c, xs 13 = .slice a (parTo f k i (j + 1)).length c ∧ OwnMat w12.heap.size w' (.slice a (parTo f k i (j + 1)).length c) (parTo f k i (j + 1))) ∧ (L 14 = true → L 13 = true ∧ xs 14 = xs 13))) (by kernel_rfl) (by kernel_rfl) (by rfl) (by rfl) (by rfl) ?_ ?_ ?_
                          focus
                            exact fun xs => ⟨ValsAt.none _ _, below_drewN HNB2.out 1, (fun h => by cases h), (fun _ => below_drewN (Below.refl _ wr) 1), (fun h => by cases h), (fun h => by cases h), (fun h => by cases h), (fun h => by cases h)⟩
                          focus
                            refine ⟨?_, ?_, ?_, ?_, ?_, ?_, ?_, ?_, ?_, ?_, ?_, ?_, ?_, ?_, ?_, trivial⟩
                            all_goals
                              intro L a' w' xs hi hd hf hJ K hK
                              obtain ⟨hv, hb, h0, h2, h3, h4, h5, h6⟩ := hJ
                              have HF := Lib.hid hf
                              have HVA := Lib.hid hv
                              have HLI := Lib.hid hi
                              clear hf hv hi
                            focus
                              clear hd
                              obtain ⟨ρ, hρ⟩ : ∃ ρ, a'.eval = ρ := ⟨_, rfl⟩
                              have hcst : ∀ v, ρ (.const v) = v := fun v => (congrFun hρ (.const v)).symm
                              have h14 : L 14 = false := by
                                cases h : L 14 with
                                | false => rfl
                                | true => have := h0 h; rw [HLI.out] at this; cases this
                              have l12 : ρ (.tmp 12) = .slice an (parTo f k i j).length cn := (congrFun hρ (.tmp 12)).symm.trans (HF.out.rest 14 12 rfl h14)
                              rw [if_pos (by simp [Region.wanted])]
                              unfold Oper.wp
                              rw [hρ]
                              clear hρ
                              go_simp
                              exact hK.out _ _ ⟨HVA.out.set (i := 0) (by rw [HVV.out]; rfl), hb, (fun _ => upd_self _ _), (by simp only [upd_ne (L := L) (show (12 : Nat) ≠ 0 by decide), upd_ne (L := L) (show (13 : Nat) ≠ 0 by decide), upd_ne (L := L) (show (14 : Nat) ≠ 0 by decide), updV_ne (xs := xs) (show (12 : Nat) ≠ 0 by decide), updV_ne (xs := xs) (show (13 : Nat) ≠ 0 by decide), updV_ne (xs := xs) (show (14 : Nat) ≠ 0 by decide), upd_self, updV_self]; exact h2), (by simp only [upd_ne (L := L) (show (12 : Nat) ≠ 0 by decide), upd_ne (L := L) (show (13 : Nat) ≠ 0 by decide), upd_ne (L := L) (show (14 : Nat) ≠ 0 by decide), updV_ne (xs := xs) (show (12 : Nat) ≠ 0 by decide), updV_ne (xs := xs) (show (13 : Nat) ≠ 0 by decide), updV_ne (xs := xs) (show (14 : Nat) ≠ 0 by decide), upd_self, updV_self]; exact h3), (by simp only [upd_ne (L := L) (show (12 : Nat) ≠ 0 by decide), upd_ne (L := L) (show (13 : Nat) ≠ 0 by decide), upd_ne (L := L) (show (14 : Nat) ≠ 0 by decide), updV_ne (xs := xs) (show (12 : Nat) ≠ 0 by decide), updV_ne (xs := xs) (show (13 : Nat) ≠ 0 by decide), updV_ne (xs := xs) (show (14 : Nat) ≠ 0 by decide), upd_self, updV_self]; exact h4), (by simp only [upd_ne (L := L) (show (12 : Nat) ≠ 0 by decide), upd_ne (L := L) (show (13 : Nat) ≠ 0 by decide), upd_ne (L := L) (show (14 : Nat) ≠ 0 by decide), updV_ne (xs := xs) (show (12 : Nat) ≠ 0 by decide), updV_ne (xs := xs) (show (13 : Nat) ≠ 0 by decide), updV_ne (xs := xs) (show (14 : Nat) ≠ 0 by decide), upd_self, updV_self]; exact h5), (by simp only [upd_ne (L := L) (show (12 : Nat) ≠ 0 by decide), upd_ne (L := L) (show (13 : Nat) ≠ 0 by decide), upd_ne (L := L) (show (14 : Nat) ≠ 0 by decide), updV_ne (xs := xs) (show (12 : Nat) ≠ 0 by decide), updV_ne (xs := xs) (show (13 : Nat) ≠ 0 by decide), updV_ne (xs := xs) (show (14 : Nat) ≠ 0 by decide), upd_self, updV_self]; exact h6)⟩
                            focus
                              clear hd
                              obtain ⟨ρ, hρ⟩ : ∃ ρ, a'.eval = ρ := ⟨_, rfl⟩
                              have hcst : ∀ v, ρ (.const v) = v := fun v => (congrFun hρ (.const v)).symm
                              have l7 : ρ (.tmp 7) = .slice (some ⟨bl, ol, none⟩) (asgTo f k).length cl := (congrFun hρ (.tmp 7)).symm.trans (HF.out.lo 7 rfl)
                              rw [if_pos (by simp [Region.wanted])]
                              unfold Oper.wp
                              rw [hρ]
                              clear hρ
                              go_simp
                              exact hK.out _ _ ⟨HVA.out.set (i := 1) (by rw [HVV.out]; rfl), hb, (by simp only [upd_ne (L := L) (show (0 : Nat) ≠ 1 by decide), upd_ne (L := L) (show (12 : Nat) ≠ 1 by decide), upd_ne (L := L) (show (13 : Nat) ≠ 1 by decide), upd_ne (L := L) (show (14 : Nat) ≠ 1 by decide), updV_ne (xs := xs) (show (0 : Nat) ≠ 1 by decide), updV_ne (xs := xs) (show (12 : Nat) ≠ 1 by decide), updV_ne (xs := xs) (show (13 : Nat) ≠ 1 by decide), updV_ne (xs := xs) (show (14 : Nat) ≠ 1 by decide)]; exact h0), (by simp only [upd_ne (L := L) (show (0 : Nat) ≠ 1 by decide), upd_ne (L := L) (show (12 : Nat) ≠ 1 by decide), upd_ne (L := L) (show (13 : Nat) ≠ 1 by decide), upd_ne (L := L) (show (14 : Nat) ≠ 1 by decide), updV_ne (xs := xs) (show (0 : Nat) ≠ 1 by decide), updV_ne (xs := xs) (show (12 : Nat) ≠ 1 by decide), updV_ne (xs := xs) (show (13 : Nat) ≠ 1 by decide), updV_ne (xs := xs) (show (14 : Nat) ≠ 1 by decide)]; exact h2), (by simp only [upd_ne (L := L) (show (0 : Nat) ≠ 1 by decide), upd_ne (L := L) (show (12 : Nat) ≠ 1 by decide), upd_ne (L := L) (show (13 : Nat) ≠ 1 by decide), upd_ne (L := L) (show (14 : Nat) ≠ 1 by decide), updV_ne (xs := xs) (show (0 : Nat) ≠ 1 by decide), updV_ne (xs := xs) (show (12 : Nat) ≠ 1 by decide), updV_ne (xs := xs) (show (13 : Nat) ≠ 1 by decide), updV_ne (xs := xs) (show (14 : Nat) ≠ 1 by decide)]; exact h3), (by simp only [upd_ne (L := L) (show (0 : Nat) ≠ 1 by decide), upd_ne (L := L) (show (12 : Nat) ≠ 1 by decide), upd_ne (L := L) (show (13 : Nat) ≠ 1 by decide), upd_ne (L := L) (show (14 : Nat) ≠ 1 by decide), updV_ne (xs := xs) (show (0 : Nat) ≠ 1 by decide), updV_ne (xs := xs) (show (12 : Nat) ≠ 1 by decide), updV_ne (xs := xs) (show (13 : Nat) ≠ 1 by decide), updV_ne (xs := xs) (show (14 : Nat) ≠ 1 by decide)]; exact h4), (by simp only [upd_ne (L := L) (show (0 : Nat) ≠ 1 by decide), upd_ne (L := L) (show (12 : Nat) ≠ 1 by decide), upd_ne (L := L) (show (13 : Nat) ≠ 1 by decide), upd_ne (L := L) (show (14 : Nat) ≠ 1 by decide), updV_ne (xs := xs) (show (0 : Nat) ≠ 1 by decide), updV_ne (xs := xs) (show (12 : Nat) ≠ 1 by decide), updV_ne (xs := xs) (show (13 : Nat) ≠ 1 by decide), updV_ne (xs := xs) (show (14 : Nat) ≠ 1 by decide)]; exact h5), (by simp only [upd_ne (L := L) (show (0 : Nat) ≠ 1 by decide), upd_ne (L := L) (show (12 : Nat) ≠ 1 by decide), upd_ne (L := L) (show (13 : Nat) ≠ 1 by decide), upd_ne (L := L) (show (14 : Nat) ≠ 1 by decide), updV_ne (xs := xs) (show (0 : Nat) ≠ 1 by decide), updV_ne (xs := xs) (show (12 : Nat) ≠ 1 by decide), updV_ne (xs := xs) (show (13 : Nat) ≠ 1 by decide), updV_ne (xs := xs) (show (14 : Nat) ≠ 1 by decide)]; exact h6)⟩
                            focus
                              clear hd
                              obtain ⟨ρ, hρ⟩ : ∃ ρ, a'.eval = ρ := ⟨_, rfl⟩
                              have hcst : ∀ v, ρ (.const v) = v := fun v => (congrFun hρ (.const v)).symm
                              have l13 : ρ (.tmp 13) = .int .i64 (i : Int) := (congrFun hρ (.tmp 13)).symm.trans (HF.out.lo 13 rfl)
                              rw [if_pos (by simp [Region.wanted])]
                              unfold Oper.wp
                              rw [hρ]
                              clear hρ
                              go_simp
                              exact hK.out _ _ ⟨HVA.out.set (i := 2) (by rw [HVV.out]; rfl), hb, (by simp only [upd_ne (L := L) (show (0 : Nat) ≠ 2 by decide), upd_ne (L := L) (show (12 : Nat) ≠ 2 by decide), upd_ne (L := L) (show (13 : Nat) ≠ 2 by decide), upd_ne (L := L) (show (14 : Nat) ≠ 2 by decide), updV_ne (xs := xs) (show (0 : Nat) ≠ 2 by decide), updV_ne (xs := xs) (show (12 : Nat) ≠ 2 by decide), updV_ne (xs := xs) (show (13 : Nat) ≠ 2 by decide), updV_ne (xs := xs) (show (14 : Nat) ≠ 2 by decide)]; exact h0), (by simp only [upd_ne (L := L) (show (0 : Nat) ≠ 2 by decide), upd_ne (L := L) (show (12 : Nat) ≠ 2 by decide), upd_ne (L := L) (show (13 : Nat) ≠ 2 by decide), upd_ne (L := L) (show (14 : Nat) ≠ 2 by decide), updV_ne (xs := xs) (show (0 : Nat) ≠ 2 by decide), updV_ne (xs := xs) (show (12 : Nat) ≠ 2 by decide), updV_ne (xs := xs) (show (13 : Nat) ≠ 2 by decide), updV_ne (xs := xs) (show (14 : Nat) ≠ 2 by decide)]; exact h2), (by simp only [upd_ne (L := L) (show (0 : Nat) ≠ 2 by decide), upd_ne (L := L) (show (12 : Nat) ≠ 2 by decide), upd_ne (L := L) (show (13 : Nat) ≠ 2 by decide), upd_ne (L := L) (show (14 : Nat) ≠ 2 by decide), updV_ne (xs := xs) (show (0 : Nat) ≠ 2 by decide), updV_ne (xs := xs) (show (12 : Nat) ≠ 2 by decide), updV_ne (xs := xs) (show (13 : Nat) ≠ 2 by decide), updV_ne (xs := xs) (show (14 : Nat) ≠ 2 by decide)]; exact h3), (by simp only [upd_ne (L := L) (show (0 : Nat) ≠ 2 by decide), upd_ne (L := L) (show (12 : Nat) ≠ 2 by decide), upd_ne (L := L) (show (13 : Nat) ≠ 2 by decide), upd_ne (L := L) (show (14 : Nat) ≠ 2 by decide), updV_ne (xs := xs) (show (0 : Nat) ≠ 2 by decide), updV_ne (xs := xs) (show (12 : Nat) ≠ 2 by decide), updV_ne (xs := xs) (show (13 : Nat) ≠ 2 by decide), updV_ne (xs := xs) (show (14 : Nat) ≠ 2 by decide)]; exact h4), (by simp only [upd_ne (L := L) (show (0 : Nat) ≠ 2 by decide), upd_ne (L := L) (show (12 : Nat) ≠ 2 by decide), upd_ne (L := L) (show (13 : Nat) ≠ 2 by decide), upd_ne (L := L) (show (14 : Nat) ≠ 2 by decide), updV_ne (xs := xs) (show (0 : Nat) ≠ 2 by decide), updV_ne (xs := xs) (show (12 : Nat) ≠ 2 by decide), updV_ne (xs := xs) (show (13 : Nat) ≠ 2 by decide), updV_ne (xs := xs) (show (14 : Nat) ≠ 2 by decide)]; exact h5), (by simp only [upd_ne (L := L) (show (0 : Nat) ≠ 2 by decide), upd_ne (L := L) (show (12 : Nat) ≠ 2 by decide), upd_ne (L := L) (show (13 : Nat) ≠ 2 by decide), upd_ne (L := L) (show (14 : Nat) ≠ 2 by decide), updV_ne (xs := xs) (show (0 : Nat) ≠ 2 by decide), updV_ne (xs := xs) (show (12 : Nat) ≠ 2 by decide), updV_ne (xs := xs) (show (13 : Nat) ≠ 2 by decide), updV_ne (xs := xs) (show (14 : Nat) ≠ 2 by decide)]; exact h6)⟩
                            focus
                              obtain ⟨d1, d2, _⟩ := hd
                              obtain ⟨ρ, hρ⟩ : ∃ ρ, a'.eval = ρ := ⟨_, rfl⟩
                              have hcst : ∀ v, ρ (.const v) = v := fun v => (congrFun hρ (.const v)).symm
                              have v1 : ρ (.tmp 76) = .slice (some ⟨bl, ol, none⟩) (asgTo f k).length cl := (congrFun hρ (.tmp 76)).symm.trans ((HF.out.ev 1 rfl d1).trans (HVA.out 1 _ (by rw [HVV.out]; rfl) d1))
                              have v2 : ρ (.tmp 77) = .int .i64 (i : Int) := (congrFun hρ (.tmp 77)).symm.trans ((HF.out.ev 2 rfl d2).trans (HVA.out 2 _ (by rw [HVV.out]; rfl) d2))
                              rw [if_pos (by simp [Region.wanted])]
                              unfold Oper.wp
                              rw [hρ]
                              clear hρ
                              go_simp
                              exact hK.out _ _ ⟨HVA.out.set (i := 3) (by rw [HVV.out]; rfl), hb, (by simp only [upd_ne (L := L) (show (0 : Nat) ≠ 3 by decide), upd_ne (L := L) (show (12 : Nat) ≠ 3 by decide), upd_ne (L := L) (show (13 : Nat) ≠ 3 by decide), upd_ne (L := L) (show (14 : Nat) ≠ 3 by decide), updV_ne (xs := xs) (show (0 : Nat) ≠ 3 by decide), updV_ne (xs := xs) (show (12 : Nat) ≠ 3 by decide), updV_ne (xs := xs) (show (13 : Nat) ≠ 3 by decide), updV_ne (xs := xs) (show (14 : Nat) ≠ 3 by decide)]; exact h0), (by simp only [upd_ne (L := L) (show (0 : Nat) ≠ 3 by decide), upd_ne (L := L) (show (12 : Nat) ≠ 3 by decide), upd_ne (L := L) (show (13 : Nat) ≠ 3 by decide), upd_ne (L := L) (show (14 : Nat) ≠ 3 by decide), updV_ne (xs := xs) (show (0 : Nat) ≠ 3 by decide), updV_ne (xs := xs) (show (12 : Nat) ≠ 3 by decide), updV_ne (xs := xs) (show (13 : Nat) ≠ 3 by decide), updV_ne (xs := xs) (show (14 : Nat) ≠ 3 by decide)]; exact h2), (by simp only [upd_ne (L := L) (show (0 : Nat) ≠ 3 by decide), upd_ne (L := L) (show (12 : Nat) ≠ 3 by decide), upd_ne (L := L) (show (13 : Nat) ≠ 3 by decide), upd_ne (L := L) (show (14 : Nat) ≠ 3 by decide), updV_ne (xs := xs) (show (0 : Nat) ≠ 3 by decide), updV_ne (xs := xs) (show (12 : Nat) ≠ 3 by decide), updV_ne (xs := xs) (show (13 : Nat) ≠ 3 by decide), updV_ne (xs := xs) (show (14 : Nat) ≠ 3 by decide)]; exact h3), (by simp only [upd_ne (L := L) (show (0 : Nat) ≠ 3 by decide), upd_ne (L := L) (show (12 : Nat) ≠ 3 by decide), upd_ne (L := L) (show (13 : Nat) ≠ 3 by decide), upd_ne (L := L) (show (14 : Nat) ≠ 3 by decide), updV_ne (xs := xs) (show (0 : Nat) ≠ 3 by decide), updV_ne (xs := xs) (show (12 : Nat) ≠ 3 by decide), updV_ne (xs := xs) (show (13 : Nat) ≠ 3 by decide), updV_ne (xs := xs) (show (14 : Nat) ≠ 3 by decide)]; exact h4), (by simp only [upd_ne (L := L) (show (0 : Nat) ≠ 3 by decide), upd_ne (L := L) (show (12 : Nat) ≠ 3 by decide), upd_ne (L := L) (show (13 : Nat) ≠ 3 by decide), upd_ne (L := L) (show (14 : Nat) ≠ 3 by decide), updV_ne (xs := xs) (show (0 : Nat) ≠ 3 by decide), updV_ne (xs := xs) (show (12 : Nat) ≠ 3 by decide), updV_ne (xs := xs) (show (13 : Nat) ≠ 3 by decide), updV_ne (xs := xs) (show (14 : Nat) ≠ 3 by decide)]; exact h5), (by simp only [upd_ne (L := L) (show (0 : Nat) ≠ 3 by decide), upd_ne (L := L) (show (12 : Nat) ≠ 3 by decide), upd_ne (L := L) (show (13 : Nat) ≠ 3 by decide), upd_ne (L := L) (show (14 : Nat) ≠ 3 by decide), updV_ne (xs := xs) (show (0 : Nat) ≠ 3 by decide), updV_ne (xs := xs) (show (12 : Nat) ≠ 3 by decide), updV_ne (xs := xs) (show (13 : Nat) ≠ 3 by decide), updV_ne (xs := xs) (show (14 : Nat) ≠ 3 by decide)]; exact h6)⟩
                            focus
                              obtain ⟨d3, _⟩ := hd
                              obtain ⟨ρ, hρ⟩ : ∃ ρ, a'.eval = ρ := ⟨_, rfl⟩
                              have hcst : ∀ v, ρ (.const v) = v := fun v => (congrFun hρ (.const v)).symm
                              have v3 : ρ (.tmp 78) = .pointer (some ⟨bl, ol + i, none⟩) := (congrFun hρ (.tmp 78)).symm.trans ((HF.out.ev 3 rfl d3).trans (HVA.out 3 _ (by rw [HVV.out]; rfl) d3))
                              have e3 := (hb.cell (p := ⟨bl, ol + i, none⟩) HQL.out).trans HE1L.out
                              rw [if_pos (by simp [Region.wanted])]
                              unfold Oper.wp
                              rw [hρ]
                              clear hρ
                              go_simp
                              exact hK.out _ _ ⟨HVA.out.set (i := 4) (by rw [HVV.out]; rfl), hb, (by simp only [upd_ne (L := L) (show (0 : Nat) ≠ 4 by decide), upd_ne (L := L) (show (12 : Nat) ≠ 4 by decide), upd_ne (L := L) (show (13 : Nat) ≠ 4 by decide), upd_ne (L := L) (show (14 : Nat) ≠ 4 by decide), updV_ne (xs := xs) (show (0 : Nat) ≠ 4 by decide), updV_ne (xs := xs) (show (12 : Nat) ≠ 4 by decide), updV_ne (xs := xs) (show (13 : Nat) ≠ 4 by decide), updV_ne (xs := xs) (show (14 : Nat) ≠ 4 by decide)]; exact h0), (by simp only [upd_ne (L := L) (show (0 : Nat) ≠ 4 by decide), upd_ne (L := L) (show (12 : Nat) ≠ 4 by decide), upd_ne (L := L) (show (13 : Nat) ≠ 4 by decide), upd_ne (L := L) (show (14 : Nat) ≠ 4 by decide), updV_ne (xs := xs) (show (0 : Nat) ≠ 4 by decide), updV_ne (xs := xs) (show (12 : Nat) ≠ 4 by decide), updV_ne (xs := xs) (show (13 : Nat) ≠ 4 by decide), updV_ne (xs := xs) (show (14 : Nat) ≠ 4 by decide)]; exact h2), (by simp only [upd_ne (L := L) (show (0 : Nat) ≠ 4 by decide), upd_ne (L := L) (show (12 : Nat) ≠ 4 by decide), upd_ne (L := L) (show (13 : Nat) ≠ 4 by decide), upd_ne (L := L) (show (14 : Nat) ≠ 4 by decide), updV_ne (xs := xs) (show (0 : Nat) ≠ 4 by decide), updV_ne (xs := xs) (show (12 : Nat) ≠ 4 by decide), updV_ne (xs := xs) (show (13 : Nat) ≠ 4 by decide), updV_ne (xs := xs) (show (14 : Nat) ≠ 4 by decide)]; exact h3), (by simp only [upd_ne (L := L) (show (0 : Nat) ≠ 4 by decide), upd_ne (L := L) (show (12 : Nat) ≠ 4 by decide), upd_ne (L := L) (show (13 : Nat) ≠ 4 by decide), upd_ne (L := L) (show (14 : Nat) ≠ 4 by decide), updV_ne (xs := xs) (show (0 : Nat) ≠ 4 by decide), updV_ne (xs := xs) (show (12 : Nat) ≠ 4 by decide), updV_ne (xs := xs) (show (13 : Nat) ≠ 4 by decide), updV_ne (xs := xs) (show (14 : Nat) ≠ 4 by decide)]; exact h4), (by simp only [upd_ne (L := L) (show (0 : Nat) ≠ 4 by decide), upd_ne (L := L) (show (12 : Nat) ≠ 4 by decide), upd_ne (L := L) (show (13 : Nat) ≠ 4 by decide), upd_ne (L := L) (show (14 : Nat) ≠ 4 by decide), updV_ne (xs := xs) (show (0 : Nat) ≠ 4 by decide), updV_ne (xs := xs) (show (12 : Nat) ≠ 4 by decide), updV_ne (xs := xs) (show (13 : Nat) ≠ 4 by decide), updV_ne (xs := xs) (show (14 : Nat) ≠ 4 by decide)]; exact h5), (by simp only [upd_ne (L := L) (show (0 : Nat) ≠ 4 by decide), upd_ne (L := L) (show (12 : Nat) ≠ 4 by decide), upd_ne (L := L) (show (13 : Nat) ≠ 4 by decide), upd_ne (L := L) (show (14 : Nat) ≠ 4 by decide), updV_ne (xs := xs) (show (0 : Nat) ≠ 4 by decide), updV_ne (xs := xs) (show (12 : Nat) ≠ 4 by decide), updV_ne (xs := xs) (show (13 : Nat) ≠ 4 by decide), updV_ne (xs := xs) (show (14 : Nat) ≠ 4 by decide)]; exact h6)⟩
                            focus
                              clear hd
                              obtain ⟨ρ, hρ⟩ : ∃ ρ, a'.eval = ρ := ⟨_, rfl⟩
                              have hcst : ∀ v, ρ (.const v) = v := fun v => (congrFun hρ (.const v)).symm
                              have l9 : ρ (.tmp 9) = .pointer (some ⟨wB.heap.size, 0, none⟩) := (congrFun hρ (.tmp 9)).symm.trans (HF.out.lo 9 rfl)
                              rw [if_pos (by simp [Region.wanted])]
                              unfold Oper.wp
                              rw [hρ]
                              clear hρ
                              go_simp
                              exact hK.out _ _ ⟨HVA.out.set (i := 5) (by rw [HVV.out]; rfl), hb, (by simp only [upd_ne (L := L) (show (0 : Nat) ≠ 5 by decide), upd_ne (L := L) (show (12 : Nat) ≠ 5 by decide), upd_ne (L := L) (show (13 : Nat) ≠ 5 by decide), upd_ne (L := L) (show (14 : Nat) ≠ 5 by decide), updV_ne (xs := xs) (show (0 : Nat) ≠ 5 by decide), updV_ne (xs := xs) (show (12 : Nat) ≠ 5 by decide), updV_ne (xs := xs) (show (13 : Nat) ≠ 5 by decide), updV_ne (xs := xs) (show (14 : Nat) ≠ 5 by decide)]; exact h0), (by simp only [upd_ne (L := L) (show (0 : Nat) ≠ 5 by decide), upd_ne (L := L) (show (12 : Nat) ≠ 5 by decide), upd_ne (L := L) (show (13 : Nat) ≠ 5 by decide), upd_ne (L := L) (show (14 : Nat) ≠ 5 by decide), updV_ne (xs := xs) (show (0 : Nat) ≠ 5 by decide), updV_ne (xs := xs) (show (12 : Nat) ≠ 5 by decide), updV_ne (xs := xs) (show (13 : Nat) ≠ 5 by decide), updV_ne (xs := xs) (show (14 : Nat) ≠ 5 by decide)]; exact h2), (by simp only [upd_ne (L := L) (show (0 : Nat) ≠ 5 by decide), upd_ne (L := L) (show (12 : Nat) ≠ 5 by decide), upd_ne (L := L) (show (13 : Nat) ≠ 5 by decide), upd_ne (L := L) (show (14 : Nat) ≠ 5 by decide), updV_ne (xs := xs) (show (0 : Nat) ≠ 5 by decide), updV_ne (xs := xs) (show (12 : Nat) ≠ 5 by decide), updV_ne (xs := xs) (show (13 : Nat) ≠ 5 by decide), updV_ne (xs := xs) (show (14 : Nat) ≠ 5 by decide)]; exact h3), (by simp only [upd_ne (L := L) (show (0 : Nat) ≠ 5 by decide), upd_ne (L := L) (show (12 : Nat) ≠ 5 by decide), upd_ne (L := L) (show (13 : Nat) ≠ 5 by decide), upd_ne (L := L) (show (14 : Nat) ≠ 5 by decide), updV_ne (xs := xs) (show (0 : Nat) ≠ 5 by decide), updV_ne (xs := xs) (show (12 : Nat) ≠ 5 by decide), updV_ne (xs := xs) (show (13 : Nat) ≠ 5 by decide), updV_ne (xs := xs) (show (14 : Nat) ≠ 5 by decide)]; exact h4), (by simp only [upd_ne (L := L) (show (0 : Nat) ≠ 5 by decide), upd_ne (L := L) (show (12 : Nat) ≠ 5 by decide), upd_ne (L := L) (show (13 : Nat) ≠ 5 by decide), upd_ne (L := L) (show (14 : Nat) ≠ 5 by decide), updV_ne (xs := xs) (show (0 : Nat) ≠ 5 by decide), updV_ne (xs := xs) (show (12 : Nat) ≠ 5 by decide), updV_ne (xs := xs) (show (13 : Nat) ≠ 5 by decide), updV_ne (xs := xs) (show (14 : Nat) ≠ 5 by decide)]; exact h5), (by simp only [upd_ne (L := L) (show (0 : Nat) ≠ 5 by decide), upd_ne (L := L) (show (12 : Nat) ≠ 5 by decide), upd_ne (L := L) (show (13 : Nat) ≠ 5 by decide), upd_ne (L := L) (show (14 : Nat) ≠ 5 by decide), updV_ne (xs := xs) (show (0 : Nat) ≠ 5 by decide), updV_ne (xs := xs) (show (12 : Nat) ≠ 5 by decide), updV_ne (xs := xs) (show (13 : Nat) ≠ 5 by decide), updV_ne (xs := xs) (show (14 : Nat) ≠ 5 by decide)]; exact h6)⟩
                            focus
                              obtain ⟨d5, _⟩ := hd
                              obtain ⟨ρ, hρ⟩ : ∃ ρ, a'.eval = ρ := ⟨_, rfl⟩
                              have hcst : ∀ v, ρ (.const v) = v := fun v => (congrFun hρ (.const v)).symm
                              have v5 : ρ (.tmp 80) = .pointer (some ⟨wB.heap.size, 0, none⟩) := (congrFun hρ (.tmp 80)).symm.trans ((HF.out.ev 5 rfl d5).trans (HVA.out 5 _ (by rw [HVV.out]; rfl) d5))
                              have e3 := (hb.cell (p := ⟨wB.heap.size, 0, none⟩) HQY.out).trans HE0L.out
                              rw [if_pos (by simp [Region.wanted])]
                              unfold Oper.wp
                              rw [hρ]
                              clear hρ
                              go_simp
                              exact hK.out _ _ ⟨HVA.out.set (i := 6) (by rw [HVV.out]; rfl), hb, (by simp only [upd_ne (L := L) (show (0 : Nat) ≠ 6 by decide), upd_ne (L := L) (show (12 : Nat) ≠ 6 by decide), upd_ne (L := L) (show (13 : Nat) ≠ 6 by decide), upd_ne (L := L) (show (14 : Nat) ≠ 6 by decide), updV_ne (xs := xs) (show (0 : Nat) ≠ 6 by decide), updV_ne (xs := xs) (show (12 : Nat) ≠ 6 by decide), updV_ne (xs := xs) (show (13 : Nat) ≠ 6 by decide), updV_ne (xs := xs) (show (14 : Nat) ≠ 6 by decide)]; exact h0), (by simp only [upd_ne (L := L) (show (0 : Nat) ≠ 6 by decide), upd_ne (L := L) (show (12 : Nat) ≠ 6 by decide), upd_ne (L := L) (show (13 : Nat) ≠ 6 by decide), upd_ne (L := L) (show (14 : Nat) ≠ 6 by decide), updV_ne (xs := xs) (show (0 : Nat) ≠ 6 by decide), updV_ne (xs := xs) (show (12 : Nat) ≠ 6 by decide), updV_ne (xs := xs) (show (13 : Nat) ≠ 6 by decide), updV_ne (xs := xs) (show (14 : Nat) ≠ 6 by decide)]; exact h2), (by simp only [upd_ne (L := L) (show (0 : Nat) ≠ 6 by decide), upd_ne (L := L) (show (12 : Nat) ≠ 6 by decide), upd_ne (L := L) (show (13 : Nat) ≠ 6 by decide), upd_ne (L := L) (show (14 : Nat) ≠ 6 by decide), updV_ne (xs := xs) (show (0 : Nat) ≠ 6 by decide), updV_ne (xs := xs) (show (12 : Nat) ≠ 6 by decide), updV_ne (xs := xs) (show (13 : Nat) ≠ 6 by decide), updV_ne (xs := xs) (show (14 : Nat) ≠ 6 by decide)]; exact h3), (by simp only [upd_ne (L := L) (show (0 : Nat) ≠ 6 by decide), upd_ne (L := L) (show (12 : Nat) ≠ 6 by decide), upd_ne (L := L) (show (13 : Nat) ≠ 6 by decide), upd_ne (L := L) (show (14 : Nat) ≠ 6 by decide), updV_ne (xs := xs) (show (0 : Nat) ≠ 6 by decide), updV_ne (xs := xs) (show (12 : Nat) ≠ 6 by decide), updV_ne (xs := xs) (show (13 : Nat) ≠ 6 by decide), updV_ne (xs := xs) (show (14 : Nat) ≠ 6 by decide)]; exact h4), (by simp only [upd_ne (L := L) (show (0 : Nat) ≠ 6 by decide), upd_ne (L := L) (show (12 : Nat) ≠ 6 by decide), upd_ne (L := L) (show (13 : Nat) ≠ 6 by decide), upd_ne (L := L) (show (14 : Nat) ≠ 6 by decide), updV_ne (xs := xs) (show (0 : Nat) ≠ 6 by decide), updV_ne (xs := xs) (show (12 : Nat) ≠ 6 by decide), updV_ne (xs := xs) (show (13 : Nat) ≠ 6 by decide), updV_ne (xs := xs) (show (14 : Nat) ≠ 6 by decide)]; exact h5), (by simp only [upd_ne (L := L) (show (0 : Nat) ≠ 6 by decide), upd_ne (L := L) (show (12 : Nat) ≠ 6 by decide), upd_ne (L := L) (show (13 : Nat) ≠ 6 by decide), upd_ne (L := L) (show (14 : Nat) ≠ 6 by decide), updV_ne (xs := xs) (show (0 : Nat) ≠ 6 by decide), updV_ne (xs := xs) (show (12 : Nat) ≠ 6 by decide), updV_ne (xs := xs) (show (13 : Nat) ≠ 6 by decide), updV_ne (xs := xs) (show (14 : Nat) ≠ 6 by decide)]; exact h6)⟩
                            focus
                              clear hd
                              obtain ⟨ρ, hρ⟩ : ∃ ρ, a'.eval = ρ := ⟨_, rfl⟩
                              have hcst : ∀ v, ρ (.const v) = v := fun v => (congrFun hρ (.const v)).symm
                              have l11 : ρ (.tmp 11) = .slice (some ⟨w10.heap.size, 0, none⟩) 1 1 := (congrFun hρ (.tmp 11)).symm.trans (HF.out.lo 11 rfl)
                              rw [if_pos (by simp [Region.wanted])]
                              unfold Oper.wp
                              rw [hρ]
                              clear hρ
                              go_simp
                              exact hK.out _ _ ⟨HVA.out.set (i := 7) (by rw [HVV.out]; rfl), hb, (by simp only [upd_ne (L := L) (show (0 : Nat) ≠ 7 by decide), upd_ne (L := L) (show (12 : Nat) ≠ 7 by decide), upd_ne (L := L) (show (13 : Nat) ≠ 7 by decide), upd_ne (L := L) (show (14 : Nat) ≠ 7 by decide), updV_ne (xs := xs) (show (0 : Nat) ≠ 7 by decide), updV_ne (xs := xs) (show (12 : Nat) ≠ 7 by decide), updV_ne (xs := xs) (show (13 : Nat) ≠ 7 by decide), updV_ne (xs := xs) (show (14 : Nat) ≠ 7 by decide)]; exact h0), (by simp only [upd_ne (L := L) (show (0 : Nat) ≠ 7 by decide), upd_ne (L := L) (show (12 : Nat) ≠ 7 by decide), upd_ne (L := L) (show (13 : Nat) ≠ 7 by decide), upd_ne (L := L) (show (14 : Nat) ≠ 7 by decide), updV_ne (xs := xs) (show (0 : Nat) ≠ 7 by decide), updV_ne (xs := xs) (show (12 : Nat) ≠ 7 by decide), updV_ne (xs := xs) (show (13 : Nat) ≠ 7 by decide), updV_ne (xs := xs) (show (14 : Nat) ≠ 7 by decide)]; exact h2), (by simp only [upd_ne (L := L) (show (0 : Nat) ≠ 7 by decide), upd_ne (L := L) (show (12 : Nat) ≠ 7 by decide), upd_ne (L := L) (show (13 : Nat) ≠ 7 by decide), upd_ne (L := L) (show (14 : Nat) ≠ 7 by decide), updV_ne (xs := xs) (show (0 : Nat) ≠ 7 by decide), updV_ne (xs := xs) (show (12 : Nat) ≠ 7 by decide), updV_ne (xs := xs) (show (13 : Nat) ≠ 7 by decide), updV_ne (xs := xs) (show (14 : Nat) ≠ 7 by decide)]; exact h3), (by simp only [upd_ne (L := L) (show (0 : Nat) ≠ 7 by decide), upd_ne (L := L) (show (12 : Nat) ≠ 7 by decide), upd_ne (L := L) (show (13 : Nat) ≠ 7 by decide), upd_ne (L := L) (show (14 : Nat) ≠ 7 by decide), updV_ne (xs := xs) (show (0 : Nat) ≠ 7 by decide), updV_ne (xs := xs) (show (12 : Nat) ≠ 7 by decide), updV_ne (xs := xs) (show (13 : Nat) ≠ 7 by decide), updV_ne (xs := xs) (show (14 : Nat) ≠ 7 by decide)]; exact h4), (by simp only [upd_ne (L := L) (show (0 : Nat) ≠ 7 by decide), upd_ne (L := L) (show (12 : Nat) ≠ 7 by decide), upd_ne (L := L) (show (13 : Nat) ≠ 7 by decide), upd_ne (L := L) (show (14 : Nat) ≠ 7 by decide), updV_ne (xs := xs) (show (0 : Nat) ≠ 7 by decide), updV_ne (xs := xs) (show (12 : Nat) ≠ 7 by decide), updV_ne (xs := xs) (show (13 : Nat) ≠ 7 by decide), updV_ne (xs := xs) (show (14 : Nat) ≠ 7 by decide)]; exact h5), (by simp only [upd_ne (L := L) (show (0 : Nat) ≠ 7 by decide), upd_ne (L := L) (show (12 : Nat) ≠ 7 by decide), upd_ne (L := L) (show (13 : Nat) ≠ 7 by decide), upd_ne (L := L) (show (14 : Nat) ≠ 7 by decide), updV_ne (xs := xs) (show (0 : Nat) ≠ 7 by decide), updV_ne (xs := xs) (show (12 : Nat) ≠ 7 by decide), updV_ne (xs := xs) (show (13 : Nat) ≠ 7 by decide), updV_ne (xs := xs) (show (14 : Nat) ≠ 7 by decide)]; exact h6)⟩
                            focus
                              clear hd
                              obtain ⟨ρ, hρ⟩ : ∃ ρ, a'.eval = ρ := ⟨_, rfl⟩
                              have hcst : ∀ v, ρ (.const v) = v := fun v => (congrFun hρ (.const v)).symm
                              have l14 : ρ (.tmp 14) = .int .i64 (j : Int) := (congrFun hρ (.tmp 14)).symm.trans (HF.out.lo 14 rfl)
                              rw [if_pos (by simp [Region.wanted])]
                              unfold Oper.wp
                              rw [hρ]
                              clear hρ
                              go_simp
                              exact hK.out _ _ ⟨HVA.out.set (i := 8) (by rw [HVV.out]; rfl), hb, (by simp only [upd_ne (L := L) (show (0 : Nat) ≠ 8 by decide), upd_ne (L := L) (show (12 : Nat) ≠ 8 by decide), upd_ne (L := L) (show (13 : Nat) ≠ 8 by decide), upd_ne (L := L) (show (14 : Nat) ≠ 8 by decide), updV_ne (xs := xs) (show (0 : Nat) ≠ 8 by decide), updV_ne (xs := xs) (show (12 : Nat) ≠ 8 by decide), updV_ne (xs := xs) (show (13 : Nat) ≠ 8 by decide), updV_ne (xs := xs) (show (14 : Nat) ≠ 8 by decide)]; exact h0), (by simp only [upd_ne (L := L) (show (0 : Nat) ≠ 8 by decide), upd_ne (L := L) (show (12 : Nat) ≠ 8 by decide), upd_ne (L := L) (show (13 : Nat) ≠ 8 by decide), upd_ne (L := L) (show (14 : Nat) ≠ 8 by decide), updV_ne (xs := xs) (show (0 : Nat) ≠ 8 by decide), updV_ne (xs := xs) (show (12 : Nat) ≠ 8 by decide), updV_ne (xs := xs) (show (13 : Nat) ≠ 8 by decide), updV_ne (xs := xs) (show (14 : Nat) ≠ 8 by decide)]; exact h2), (by simp only [upd_ne (L := L) (show (0 : Nat) ≠ 8 by decide), upd_ne (L := L) (show (12 : Nat) ≠ 8 by decide), upd_ne (L := L) (show (13 : Nat) ≠ 8 by decide), upd_ne (L := L) (show (14 : Nat) ≠ 8 by decide), updV_ne (xs := xs) (show (0 : Nat) ≠ 8 by decide), updV_ne (xs := xs) (show (12 : Nat) ≠ 8 by decide), updV_ne (xs := xs) (show (13 : Nat) ≠ 8 by decide), updV_ne (xs := xs) (show (14 : Nat) ≠ 8 by decide)]; exact h3), (by simp only [upd_ne (L := L) (show (0 : Nat) ≠ 8 by decide), upd_ne (L := L) (show (12 : Nat) ≠ 8 by decide), upd_ne (L := L) (show (13 : Nat) ≠ 8 by decide), upd_ne (L := L) (show (14 : Nat) ≠ 8 by decide), updV_ne (xs := xs) (show (0 : Nat) ≠ 8 by decide), updV_ne (xs := xs) (show (12 : Nat) ≠ 8 by decide), updV_ne (xs := xs) (show (13 : Nat) ≠ 8 by decide), updV_ne (xs := xs) (show (14 : Nat) ≠ 8 by decide)]; exact h4), (by simp only [upd_ne (L := L) (show (0 : Nat) ≠ 8 by decide), upd_ne (L := L) (show (12 : Nat) ≠ 8 by decide), upd_ne (L := L) (show (13 : Nat) ≠ 8 by decide), upd_ne (L := L) (show (14 : Nat) ≠ 8 by decide), updV_ne (xs := xs) (show (0 : Nat) ≠ 8 by decide), updV_ne (xs := xs) (show (12 : Nat) ≠ 8 by decide), updV_ne (xs := xs) (show (13 : Nat) ≠ 8 by decide), updV_ne (xs := xs) (show (14 : Nat) ≠ 8 by decide)]; exact h5), (by simp only [upd_ne (L := L) (show (0 : Nat) ≠ 8 by decide), upd_ne (L := L) (show (12 : Nat) ≠ 8 by decide), upd_ne (L := L) (show (13 : Nat) ≠ 8 by decide), upd_ne (L := L) (show (14 : Nat) ≠ 8 by decide), updV_ne (xs := xs) (show (0 : Nat) ≠ 8 by decide), updV_ne (xs := xs) (show (12 : Nat) ≠ 8 by decide), updV_ne (xs := xs) (show (13 : Nat) ≠ 8 by decide), updV_ne (xs := xs) (show (14 : Nat) ≠ 8 by decide)]; exact h6)⟩
                            focus
                              obtain ⟨d7, d8, _⟩ := hd
                              obtain ⟨ρ, hρ⟩ : ∃ ρ, a'.eval = ρ := ⟨_, rfl⟩
                              have hcst : ∀ v, ρ (.const v) = v := fun v => (congrFun hρ (.const v)).symm
                              have v7 : ρ (.tmp 82) = .slice (some ⟨w10.heap.size, 0, none⟩) 1 1 := (congrFun hρ (.tmp 82)).symm.trans ((HF.out.ev 7 rfl d7).trans (HVA.out 7 _ (by rw [HVV.out]; rfl) d7))
                              have v8 : ρ (.tmp 83) = .int .i64 (j : Int) := (congrFun hρ (.tmp 83)).symm.trans ((HF.out.ev 8 rfl d8).trans (HVA.out 8 _ (by rw [HVV.out]; rfl) d8))
                              have hj1 : (j : Int) < 1 := by have := HPL1.out; omega
                              rw [if_pos (by simp [Region.wanted])]
                              unfold Oper.wp
                              rw [hρ]
                              clear hρ
                              go_simp
                              exact hK.out _ _ ⟨HVA.out.set (i := 9) (by rw [HVV.out]; rfl), hb, (by simp only [upd_ne (L := L) (show (0 : Nat) ≠ 9 by decide), upd_ne (L := L) (show (12 : Nat) ≠ 9 by decide), upd_ne (L := L) (show (13 : Nat) ≠ 9 by decide), upd_ne (L := L) (show (14 : Nat) ≠ 9 by decide), updV_ne (xs := xs) (show (0 : Nat) ≠ 9 by decide), updV_ne (xs := xs) (show (12 : Nat) ≠ 9 by decide), updV_ne (xs := xs) (show (13 : Nat) ≠ 9 by decide), updV_ne (xs := xs) (show (14 : Nat) ≠ 9 by decide)]; exact h0), (by simp only [upd_ne (L := L) (show (0 : Nat) ≠ 9 by decide), upd_ne (L := L) (show (12 : Nat) ≠ 9 by decide), upd_ne (L := L) (show (13 : Nat) ≠ 9 by decide), upd_ne (L := L) (show (14 : Nat) ≠ 9 by decide), updV_ne (xs := xs) (show (0 : Nat) ≠ 9 by decide), updV_ne (xs := xs) (show (12 : Nat) ≠ 9 by decide), updV_ne (xs := xs) (show (13 : Nat) ≠ 9 by decide), updV_ne (xs := xs) (show (14 : Nat) ≠ 9 by decide)]; exact h2), (by simp only [upd_ne (L := L) (show (0 : Nat) ≠ 9 by decide), upd_ne (L := L) (show (12 : Nat) ≠ 9 by decide), upd_ne (L := L) (show (13 : Nat) ≠ 9 by decide), upd_ne (L := L) (show (14 : Nat) ≠ 9 by decide), updV_ne (xs := xs) (show (0 : Nat) ≠ 9 by decide), updV_ne (xs := xs) (show (12 : Nat) ≠ 9 by decide), updV_ne (xs := xs) (show (13 : Nat) ≠ 9 by decide), updV_ne (xs := xs) (show (14 : Nat) ≠ 9 by decide)]; exact h3), (by simp only [upd_ne (L := L) (show (0 : Nat) ≠ 9 by decide), upd_ne (L := L) (show (12 : Nat) ≠ 9 by decide), upd_ne (L := L) (show (13 : Nat) ≠ 9 by decide), upd_ne (L := L) (show (14 : Nat) ≠ 9 by decide), updV_ne (xs := xs) (show (0 : Nat) ≠ 9 by decide), updV_ne (xs := xs) (show (12 : Nat) ≠ 9 by decide), updV_ne (xs := xs) (show (13 : Nat) ≠ 9 by decide), updV_ne (xs := xs) (show (14 : Nat) ≠ 9 by decide)]; exact h4), (by simp only [upd_ne (L := L) (show (0 : Nat) ≠ 9 by decide), upd_ne (L := L) (show (12 : Nat) ≠ 9 by decide), upd_ne (L := L) (show (13 : Nat) ≠ 9 by decide), upd_ne (L := L) (show (14 : Nat) ≠ 9 by decide), updV_ne (xs := xs) (show (0 : Nat) ≠ 9 by decide), updV_ne (xs := xs) (show (12 : Nat) ≠ 9 by decide), updV_ne (xs := xs) (show (13 : Nat) ≠ 9 by decide), updV_ne (xs := xs) (show (14 : Nat) ≠ 9 by decide)]; exact h5), (by simp only [upd_ne (L := L) (show (0 : Nat) ≠ 9 by decide), upd_ne (L := L) (show (12 : Nat) ≠ 9 by decide), upd_ne (L := L) (show (13 : Nat) ≠ 9 by decide), upd_ne (L := L) (show (14 : Nat) ≠ 9 by decide), updV_ne (xs := xs) (show (0 : Nat) ≠ 9 by decide), updV_ne (xs := xs) (show (12 : Nat) ≠ 9 by decide), updV_ne (xs := xs) (show (13 : Nat) ≠ 9 by decide), updV_ne (xs := xs) (show (14 : Nat) ≠ 9 by decide)]; exact h6)⟩
                            focus
                              obtain ⟨d9, _⟩ := hd
                              obtain ⟨ρ, hρ⟩ : ∃ ρ, a'.eval = ρ := ⟨_, rfl⟩
                              have hcst : ∀ v, ρ (.const v) = v := fun v => (congrFun hρ (.const v)).symm
                              have v9 : ρ (.tmp 84) = .pointer (some ⟨w10.heap.size, j, none⟩) := (congrFun hρ (.tmp 84)).symm.trans ((HF.out.ev 9 rfl d9).trans (HVA.out 9 _ (by rw [HVV.out]; rfl) d9))
                              have e3 := (hb.cell (p := ⟨w10.heap.size, j, none⟩) HQP.out).trans HE2L.out
                              rw [if_pos (by simp [Region.wanted])]
                              unfold Oper.wp
                              rw [hρ]
                              clear hρ
                              go_simp
                              exact hK.out _ _ ⟨HVA.out.set (i := 10) (by rw [HVV.out]; rfl), hb, (by simp only [upd_ne (L := L) (show (0 : Nat) ≠ 10 by decide), upd_ne (L := L) (show (12 : Nat) ≠ 10 by decide), upd_ne (L := L) (show (13 : Nat) ≠ 10 by decide), upd_ne (L := L) (show (14 : Nat) ≠ 10 by decide), updV_ne (xs := xs) (show (0 : Nat) ≠ 10 by decide), updV_ne (xs := xs) (show (12 : Nat) ≠ 10 by decide), updV_ne (xs := xs) (show (13 : Nat) ≠ 10 by decide), updV_ne (xs := xs) (show (14 : Nat) ≠ 10 by decide)]; exact h0), (by simp only [upd_ne (L := L) (show (0 : Nat) ≠ 10 by decide), upd_ne (L := L) (show (12 : Nat) ≠ 10 by decide), upd_ne (L := L) (show (13 : Nat) ≠ 10 by decide), upd_ne (L := L) (show (14 : Nat) ≠ 10 by decide), updV_ne (xs := xs) (show (0 : Nat) ≠ 10 by decide), updV_ne (xs := xs) (show (12 : Nat) ≠ 10 by decide), updV_ne (xs := xs) (show (13 : Nat) ≠ 10 by decide), updV_ne (xs := xs) (show (14 : Nat) ≠ 10 by decide)]; exact h2), (by simp only [upd_ne (L := L) (show (0 : Nat) ≠ 10 by decide), upd_ne (L := L) (show (12 : Nat) ≠ 10 by decide), upd_ne (L := L) (show (13 : Nat) ≠ 10 by decide), upd_ne (L := L) (show (14 : Nat) ≠ 10 by decide), updV_ne (xs := xs) (show (0 : Nat) ≠ 10 by decide), updV_ne (xs := xs) (show (12 : Nat) ≠ 10 by decide), updV_ne (xs := xs) (show (13 : Nat) ≠ 10 by decide), updV_ne (xs := xs) (show (14 : Nat) ≠ 10 by decide)]; exact h3), (by simp only [upd_ne (L := L) (show (0 : Nat) ≠ 10 by decide), upd_ne (L := L) (show (12 : Nat) ≠ 10 by decide), upd_ne (L := L) (show (13 : Nat) ≠ 10 by decide), upd_ne (L := L) (show (14 : Nat) ≠ 10 by decide), updV_ne (xs := xs) (show (0 : Nat) ≠ 10 by decide), updV_ne (xs := xs) (show (12 : Nat) ≠ 10 by decide), updV_ne (xs := xs) (show (13 : Nat) ≠ 10 by decide), updV_ne (xs := xs) (show (14 : Nat) ≠ 10 by decide)]; exact h4), (by simp only [upd_ne (L := L) (show (0 : Nat) ≠ 10 by decide), upd_ne (L := L) (show (12 : Nat) ≠ 10 by decide), upd_ne (L := L) (show (13 : Nat) ≠ 10 by decide), upd_ne (L := L) (show (14 : Nat) ≠ 10 by decide), updV_ne (xs := xs) (show (0 : Nat) ≠ 10 by decide), updV_ne (xs := xs) (show (12 : Nat) ≠ 10 by decide), updV_ne (xs := xs) (show (13 : Nat) ≠ 10 by decide), updV_ne (xs := xs) (show (14 : Nat) ≠ 10 by decide)]; exact h5), (by simp only [upd_ne (L := L) (show (0 : Nat) ≠ 10 by decide), upd_ne (L := L) (show (12 : Nat) ≠ 10 by decide), upd_ne (L := L) (show (13 : Nat) ≠ 10 by decide), upd_ne (L := L) (show (14 : Nat) ≠ 10 by decide), updV_ne (xs := xs) (show (0 : Nat) ≠ 10 by decide), updV_ne (xs := xs) (show (12 : Nat) ≠ 10 by decide), updV_ne (xs := xs) (show (13 : Nat) ≠ 10 by decide), updV_ne (xs := xs) (show (14 : Nat) ≠ 10 by decide)]; exact h6)⟩
                            focus
                              clear hd
                              obtain ⟨ρ, hρ⟩ : ∃ ρ, a'.eval = ρ := ⟨_, rfl⟩
                              have hcst : ∀ v, ρ (.const v) = v := fun v => (congrFun hρ (.const v)).symm
                              have l10 : ρ (.tmp 10) = .int .i64 (beforeI f k) := (congrFun hρ (.tmp 10)).symm.trans (HF.out.lo 10 rfl)
                              rw [if_pos (by simp [Region.wanted])]
                              unfold Oper.wp
                              rw [hρ]
                              clear hρ
                              go_simp
                              exact hK.out _ _ ⟨HVA.out.set (i := 11) (by rw [HVV.out]; rfl), hb, (by simp only [upd_ne (L := L) (show (0 : Nat) ≠ 11 by decide), upd_ne (L := L) (show (12 : Nat) ≠ 11 by decide), upd_ne (L := L) (show (13 : Nat) ≠ 11 by decide), upd_ne (L := L) (show (14 : Nat) ≠ 11 by decide), updV_ne (xs := xs) (show (0 : Nat) ≠ 11 by decide), updV_ne (xs := xs) (show (12 : Nat) ≠ 11 by decide), updV_ne (xs := xs) (show (13 : Nat) ≠ 11 by decide), updV_ne (xs := xs) (show (14 : Nat) ≠ 11 by decide)]; exact h0), (by simp only [upd_ne (L := L) (show (0 : Nat) ≠ 11 by decide), upd_ne (L := L) (show (12 : Nat) ≠ 11 by decide), upd_ne (L := L) (show (13 : Nat) ≠ 11 by decide), upd_ne (L := L) (show (14 : Nat) ≠ 11 by decide), updV_ne (xs := xs) (show (0 : Nat) ≠ 11 by decide), updV_ne (xs := xs) (show (12 : Nat) ≠ 11 by decide), updV_ne (xs := xs) (show (13 : Nat) ≠ 11 by decide), updV_ne (xs := xs) (show (14 : Nat) ≠ 11 by decide)]; exact h2), (by simp only [upd_ne (L := L) (show (0 : Nat) ≠ 11 by decide), upd_ne (L := L) (show (12 : Nat) ≠ 11 by decide), upd_ne (L := L) (show (13 : Nat) ≠ 11 by decide), upd_ne (L := L) (show (14 : Nat) ≠ 11 by decide), updV_ne (xs := xs) (show (0 : Nat) ≠ 11 by decide), updV_ne (xs := xs) (show (12 : Nat) ≠ 11 by decide), updV_ne (xs := xs) (show (13 : Nat) ≠ 11 by decide), updV_ne (xs := xs) (show (14 : Nat) ≠ 11 by decide)]; exact h3), (by simp only [upd_ne (L := L) (show (0 : Nat) ≠ 11 by decide), upd_ne (L := L) (show (12 : Nat) ≠ 11 by decide), upd_ne (L := L) (show (13 : Nat) ≠ 11 by decide), upd_ne (L := L) (show (14 : Nat) ≠ 11 by decide), updV_ne (xs := xs) (show (0 : Nat) ≠ 11 by decide), updV_ne (xs := xs) (show (12 : Nat) ≠ 11 by decide), updV_ne (xs := xs) (show (13 : Nat) ≠ 11 by decide), updV_ne (xs := xs) (show (14 : Nat) ≠ 11 by decide)]; exact h4), (by simp only [upd_ne (L := L) (show (0 : Nat) ≠ 11 by decide), upd_ne (L := L) (show (12 : Nat) ≠ 11 by decide), upd_ne (L := L) (show (13 : Nat) ≠ 11 by decide), upd_ne (L := L) (show (14 : Nat) ≠ 11 by decide), updV_ne (xs := xs) (show (0 : Nat) ≠ 11 by decide), updV_ne (xs := xs) (show (12 : Nat) ≠ 11 by decide), updV_ne (xs := xs) (show (13 : Nat) ≠ 11 by decide), updV_ne (xs := xs) (show (14 : Nat) ≠ 11 by decide)]; exact h5), (by simp only [upd_ne (L := L) (show (0 : Nat) ≠ 11 by decide), upd_ne (L := L) (show (12 : Nat) ≠ 11 by decide), upd_ne (L := L) (show (13 : Nat) ≠ 11 by decide), upd_ne (L := L) (show (14 : Nat) ≠ 11 by decide), updV_ne (xs := xs) (show (0 : Nat) ≠ 11 by decide), updV_ne (xs := xs) (show (12 : Nat) ≠ 11 by decide), updV_ne (xs := xs) (show (13 : Nat) ≠ 11 by decide), updV_ne (xs := xs) (show (14 : Nat) ≠ 11 by decide)]; exact h6)⟩
                            focus
                              obtain ⟨d4, d6, d10, d11, _⟩ := hd
                              obtain ⟨ρ, hρ⟩ : ∃ ρ, a'.eval = ρ := ⟨_, rfl⟩
                              have hcst : ∀ v, ρ (.const v) = v := fun v => (congrFun hρ (.const v)).symm
                              have hfun : ∀ k, ρ (.func k) = .func (.func k) #[] #[] := fun k => (congrFun hρ (.func k)).symm
                              have v4 : ρ (.tmp 79) = .slice ar (rowAt (asgTo f k) i).length cr := (congrFun hρ (.tmp 79)).symm.trans ((HF.out.ev 4 rfl d4).trans (HVA.out 4 _ (by rw [HVV.out]; rfl) d4))
                              have v6 : ρ (.tmp 81) = .slice ai (lotAt f.lots k).ins.length ci := (congrFun hρ (.tmp 81)).symm.trans ((HF.out.ev 6 rfl d6).trans (HVA.out 6 _ (by rw [HVV.out]; rfl) d6))
                              have v10 : ρ (.tmp 85) = .slice aq (rowAt (permsOf (lotAt f.lots k)) j).length cq := (congrFun hρ (.tmp 85)).symm.trans ((HF.out.ev 10 rfl d10).trans (HVA.out 10 _ (by rw [HVV.out]; rfl) d10))
                              have v11 : ρ (.tmp 86) = .int .i64 (beforeI f k) := (congrFun hρ (.tmp 86)).symm.trans ((HF.out.ev 11 rfl d11).trans (HVA.out 11 _ (by rw [HVV.out]; rfl) d11))
                              rw [if_pos (by simp [Region.wanted])]
                              unfold Oper.wp
                              rw [hρ]
                              clear hρ
                              have h13 : L 13 = false := by
                                cases h : L 13 with
                                | false => rfl
                                | true => have := h4 h; rw [HLI.out] at this; cases this
                              have HMV2 := Lib.hid (HMVW.out w' hb)
                              have HB2 := Lib.hid (h2 h13)
                              have H0 := Lib.hid h0
                              have H5 := Lib.hid h5
                              have H6 := Lib.hid h6
                              have H13 := Lib.hid h13
                              clear h0 h2 h3 h4 h5 h6 h13
                              go_simp
                              go_at_call 51
                              refine HMV2.out.mono ?_
                              rintro e w13 ⟨v13, rfl, ho13, hb13⟩
                              obtain ⟨a13, c13, rfl, _⟩ := ho13.form
                              have HB13 := Lib.hid hb13
                              have HO13 : Hid (OwnInts w12.heap.size w13 (.slice a13 _ c13) _) := Lib.hid (ho13.mono hb.size)
                              clear hb13 ho13
                              exact hK.out _ _ ⟨HVA.out.free (i := 12) (by rw [HVV.out]; rfl) _, hb.trans (HB13.out.mono hb.size), (by simp only [upd_ne (L := L) (show (0 : Nat) ≠ 12 by decide), upd_ne (L := L) (show (13 : Nat) ≠ 12 by decide), upd_ne (L := L) (show (14 : Nat) ≠ 12 by decide), updV_ne (xs := xs) (show (0 : Nat) ≠ 12 by decide), updV_ne (xs := xs) (show (13 : Nat) ≠ 12 by decide), updV_ne (xs := xs) (show (14 : Nat) ≠ 12 by decide), upd_self, updV_self]; exact H0.out), (fun _ => HB2.out.trans (HB13.out.mono HB2.out.size)), (fun _ _ => ⟨a13, c13, updV_self _ _ _, HO13.out⟩), (fun h => by simp only [upd_ne (L := L) (show (13 : Nat) ≠ 12 by decide)] at h; rw [H13.out] at h; cases h), (fun h => by simp only [upd_ne (L := L) (show (13 : Nat) ≠ 12 by decide)] at h; rw [H13.out] at h; cases h), (by simp only [upd_ne (L := L) (show (0 : Nat) ≠ 12 by decide), upd_ne (L := L) (show (13 : Nat) ≠ 12 by decide), upd_ne (L := L) (show (14 : Nat) ≠ 12 by decide), updV_ne (xs := xs) (show (0 : Nat) ≠ 12 by decide), updV_ne (xs := xs) (show (13 : Nat) ≠ 12 by decide), updV_ne (xs := xs) (show (14 : Nat) ≠ 12 by decide), upd_self, updV_self]; exact H6.out)⟩
                            focus
                              obtain ⟨d0, d12, _, _⟩ := hd
                              obtain ⟨ρ, hρ⟩ : ∃ ρ, a'.eval = ρ := ⟨_, rfl⟩
                              have hcst : ∀ v, ρ (.const v) = v := fun v => (congrFun hρ (.const v)).symm
                              have hfun : ∀ k, ρ (.func k) = .func (.func k) #[] #[] := fun k => (congrFun hρ (.func k)).symm
                              have v0 : ρ (.tmp 75) = .slice an (parTo f k i j).length cn := (congrFun hρ (.tmp 75)).symm.trans ((HF.out.ev 0 rfl d0).trans (HVA.out 0 _ (by rw [HVV.out]; rfl) d0))
                              have v12 : ρ (.tmp 87) = xs 12 := (congrFun hρ (.tmp 87)).symm.trans (HF.out.ev 12 rfl d12)
                              rw [if_pos (by simp [Region.wanted])]
                              unfold Oper.wp
                              rw [hρ]
                              clear hρ
                              obtain ⟨a13, c13, ex12, ho13⟩ := h3 d12 HLI.out
                              rw [ex12] at v12
                              have HO13 := Lib.hid ho13
                              have HB2 := Lib.hid (h2 HLI.out)
                              have HL14 : Hid (L 14 = true → false = true) := Lib.hid (fun h => by have := (h6 h).1; rw [HLI.out] at this; exact this)
                              have HD0 := Lib.hid d0
                              have HD12 := Lib.hid d12
                              clear h0 h2 h3 h4 h5 h6 ho13 ex12
                              have HPUT := Lib.hid (put_any w12.heap.size w' _ _ _ _ (HNM2.out.below HB2.out) HO13.out hb.size HPOK.out.1 (fun a ha => by rw [HMVL.out]; exact HPOK.out.2.1 a ha) (by have h1 := HPOK.out.2.2; have h2 := asg_8 h0' h8 (k := k + 1) HLK1.out; omega))
                              rw [← HSTEP.out] at HPUT
                              go_simp
                              go_at_call 24
                              refine HPUT.out.mono ?_
                              rintro e w14 ⟨v14, rfl, ho14, hg14, _⟩
                              obtain ⟨a14, c14, rfl, _⟩ := ho14.form
                              have HO14 := Lib.hid ho14
                              have HB14 : Hid (Below w12.heap.size w12 w14) := Lib.hid (hb.grown hg14 hb.size (fun q hq => (HNL.out q hq).1))
                              clear ho14 hg14
                              exact hK.out _ _ ⟨HVA.out.free (i := 13) (by rw [HVV.out]; rfl) _, HB14.out, (by simp only [upd_ne (L := L) (show (0 : Nat) ≠ 13 by decide), upd_ne (L := L) (show (12 : Nat) ≠ 13 by decide), upd_ne (L := L) (show (14 : Nat) ≠ 13 by decide), updV_ne (xs := xs) (show (0 : Nat) ≠ 13 by decide), updV_ne (xs := xs) (show (12 : Nat) ≠ 13 by decide), updV_ne (xs := xs) (show (14 : Nat) ≠ 13 by decide), upd_self, updV_self]; exact fun _ => HD0.out), (fun h => by rw [upd_self] at h; cases h), (fun _ h => by rw [upd_self] at h; cases h), (by simp only [upd_ne (L := L) (show (0 : Nat) ≠ 13 by decide), upd_ne (L := L) (show (12 : Nat) ≠ 13 by decide), upd_ne (L := L) (show (14 : Nat) ≠ 13 by decide), updV_ne (xs := xs) (show (0 : Nat) ≠ 13 by decide), updV_ne (xs := xs) (show (12 : Nat) ≠ 13 by decide), updV_ne (xs := xs) (show (14 : Nat) ≠ 13 by decide), upd_self, updV_self]; exact fun _ => HD12.out), (fun _ => ⟨a14, c14, updV_self _ _ _, HO14.out⟩), (fun h => by simp only [upd_ne (L := L) (show (14 : Nat) ≠ 13 by decide)] at h; exact absurd (HL14.out h) (by decide))⟩
                            focus
                              obtain ⟨d13, _, d0, d1, d2, d3, d4, d5, d6, d7, d8, d9, d10, d11, d12, _, _⟩ := hd
                              obtain ⟨ρ, hρ⟩ : ∃ ρ, a'.eval = ρ := ⟨_, rfl⟩
                              have hcst : ∀ v, ρ (.const v) = v := fun v => (congrFun hρ (.const v)).symm
                              have v13 : ρ (.tmp 88) = xs 13 := (congrFun hρ (.tmp 88)).symm.trans (HF.out.ev 13 rfl d13)
                              rw [if_pos (by simp [Region.wanted])]
                              unfold Oper.wp
                              rw [hρ]
                              clear hρ
                              obtain ⟨a14, c14, ex13, ho14⟩ := h5 d13
                              rw [ex13] at v13
                              have EX := Lib.hid ex13
                              have H2 := Lib.hid h2
                              have H3 := Lib.hid h3
                              have H4 := Lib.hid h4
                              have HO14 := Lib.hid ho14
                              have HD0 := Lib.hid d0
                              have HD13 := Lib.hid d13
                              clear h0 h2 h3 h4 h5 h6 ex13 ho14
                              go_simp
                              exact hK.out _ _ ⟨HVA.out.free (i := 14) (by rw [HVV.out]; rfl) _, hb, (by simp only [upd_ne (L := L) (show (0 : Nat) ≠ 14 by decide), upd_ne (L := L) (show (12 : Nat) ≠ 14 by decide), upd_ne (L := L) (show (13 : Nat) ≠ 14 by decide), updV_ne (xs := xs) (show (0 : Nat) ≠ 14 by decide), updV_ne (xs := xs) (show (12 : Nat) ≠ 14 by decide), updV_ne (xs := xs) (show (13 : Nat) ≠ 14 by decide), upd_self, updV_self]; exact fun _ => HD0.out), (by simp only [upd_ne (L := L) (show (0 : Nat) ≠ 14 by decide), upd_ne (L := L) (show (12 : Nat) ≠ 14 by decide), upd_ne (L := L) (show (13 : Nat) ≠ 14 by decide), updV_ne (xs := xs) (show (0 : Nat) ≠ 14 by decide), updV_ne (xs := xs) (show (12 : Nat) ≠ 14 by decide), updV_ne (xs := xs) (show (13 : Nat) ≠ 14 by decide), upd_self, updV_self]; exact H2.out), (by simp only [upd_ne (L := L) (show (0 : Nat) ≠ 14 by decide), upd_ne (L := L) (show (12 : Nat) ≠ 14 by decide), upd_ne (L := L) (show (13 : Nat) ≠ 14 by decide), updV_ne (xs := xs) (show (0 : Nat) ≠ 14 by decide), updV_ne (xs := xs) (show (12 : Nat) ≠ 14 by decide), updV_ne (xs := xs) (show (13 : Nat) ≠ 14 by decide), upd_self, updV_self]; exact H3.out), (by simp only [upd_ne (L := L) (show (0 : Nat) ≠ 14 by decide), upd_ne (L := L) (show (12 : Nat) ≠ 14 by decide), upd_ne (L := L) (show (13 : Nat) ≠ 14 by decide), updV_ne (xs := xs) (show (0 : Nat) ≠ 14 by decide), updV_ne (xs := xs) (show (12 : Nat) ≠ 14 by decide), updV_ne (xs := xs) (show (13 : Nat) ≠ 14 by decide), upd_self, updV_self]; exact H4.out), (by simp only [upd_ne (L := L) (show (0 : Nat) ≠ 14 by decide), upd_ne (L := L) (show (12 : Nat) ≠ 14 by decide), upd_ne (L := L) (show (13 : Nat) ≠ 14 by decide), updV_ne (xs := xs) (show (0 : Nat) ≠ 14 by decide), updV_ne (xs := xs) (show (12 : Nat) ≠ 14 by decide), updV_ne (xs := xs) (show (13 : Nat) ≠ 14 by decide), upd_self, updV_self]; exact fun _ => ⟨a14, c14, EX.out, HO14.out⟩), (by simp only [upd_ne (L := L) (show (0 : Nat) ≠ 14 by decide), upd_ne (L := L) (show (12 : Nat) ≠ 14 by decide), upd_ne (L := L) (show (13 : Nat) ≠ 14 by decide), updV_ne (xs := xs) (show (0 : Nat) ≠ 14 by decide), updV_ne (xs := xs) (show (12 : Nat) ≠ 14 by decide), updV_ne (xs := xs) (show (13 : Nat) ≠ 14 by decide), upd_self, updV_self]; exact fun _ => ⟨HD13.out, EX.out.symm⟩)⟩
                          focus
                            intro L w' xs hL hJ
                            obtain ⟨hv, hb, h0, h2, h3, h4, h5, h6⟩ := hJ
                            have e0 : xs 0 = .slice an (parTo f k i j).length cn := hv 0 _ (by rw [HVV.out]; rfl) (hL 0 (by decide))
                            have e1 : xs 1 = .slice (some ⟨bl, ol, none⟩) (asgTo f k).length cl := hv 1 _ (by rw [HVV.out]; rfl) (hL 1 (by decide))
                            have e2 : xs 2 = .int .i64 (i : Int) := hv 2 _ (by rw [HVV.out]; rfl) (hL 2 (by decide))
                            have e3 : xs 3 = .pointer (some ⟨bl, ol + i, none⟩) := hv 3 _ (by rw [HVV.out]; rfl) (hL 3 (by decide))
                            have e4 : xs 4 = .slice ar (rowAt (asgTo f k) i).length cr := hv 4 _ (by rw [HVV.out]; rfl) (hL 4 (by decide))
                            have e5 : xs 5 = .pointer (some ⟨wB.heap.size, 0, none⟩) := hv 5 _ (by rw [HVV.out]; rfl) (hL 5 (by decide))
                            have e6 : xs 6 = .slice ai (lotAt f.lots k).ins.length ci := hv 6 _ (by rw [HVV.out]; rfl) (hL 6 (by decide))
                            have e7 : xs 7 = .slice (some ⟨w10.heap.size, 0, none⟩) 1 1 := hv 7 _ (by rw [HVV.out]; rfl) (hL 7 (by decide))
                            have e8 : xs 8 = .int .i64 (j : Int) := hv 8 _ (by rw [HVV.out]; rfl) (hL 8 (by decide))
                            have e9 : xs 9 = .pointer (some ⟨w10.heap.size, j, none⟩) := hv 9 _ (by rw [HVV.out]; rfl) (hL 9 (by decide))
                            have e10 : xs 10 = .slice aq (rowAt (permsOf (lotAt f.lots k)) j).length cq := hv 10 _ (by rw [HVV.out]; rfl) (hL 10 (by decide))
                            have e11 : xs 11 = .int .i64 (beforeI f k) := hv 11 _ (by rw [HVV.out]; rfl) (hL 11 (by decide))
                            simp only [putGo, Act.put, List.setIfInBounds_toArray, List.set_cons_zero, List.set_cons_succ, e0, e1, e2, e3, e4, e5, e6, e7, e8, e9, e10, e11]
                            clear hv e0 e1 e2 e3 e4 e5 e6 e7 e8 e9 e10 e11
                          obtain ⟨a14, c14, ex13, ho14⟩ := h5 (hL 13 (by decide))
                          have ex14 := (h6 (hL 14 (by decide))).2
                          rw [ex14]
                          simp only [ex13]
                          have HO14 := Lib.hid ho14
                          have HB14 := Lib.hid hb
                          clear h0 h2 h3 h4 h5 h6 hL ex13 ex14 ho14 hb
                          go_wp2
                          go_roundw
                          case rel => exact ⟨j + 1, by omega, by go_num, HO14.out, HB14.out⟩
                          case measure => simp [intOf]; omega
                        · have hjl' : decide ((j : Int) < 1) = false := decide_eq_false (by have := HPL1.out; omega)
                          obtain rfl : j = (permsOf (lotAt f.lots k)).length := by omega
                          have HROW := Lib.hid (parTo_row hil)
                          go_wp2
                          go_roundw
                          case rel => exact ⟨i + 1, by omega, by go_num, by rw [← HROW.out]; exact HNM2.out, HNB2.out⟩
                          case measure => simp [intOf]; omega
                    · have hil' : decide ((i : Int) < (asgTo f k).length) = false := decide_eq_false (by omega)
                      obtain rfl : i = (asgTo f k).length := by omega
                      obtain ⟨an, cn, rfl, _⟩ := HNM.out.form
                      rw [parTo_end] at HNM ⊢
                      have HB15 : Hid (Below w.heap.size w wC) := Lib.hid (HBB.out.trans ((HB12.out.trans (HNB.out.mono HB12.out.size)).mono HBB.out.size))
                      have HO15 : Hid (OwnMat w.heap.size wC (.slice an (asgTo f (k + 1)).length cn) (asgTo f (k + 1))) := Lib.hid (HNM.out.mono (Nat.le_trans HBB.out.size HB12.out.size))
                      by_cases hfew : 5040 < (asgTo f (k + 1)).length
                      · have hfew' : decide (5040 < ((asgTo f (k + 1)).length : Int)) = true := decide_eq_true (by omega)
                        have HE : Hid (allE f = 2) := Lib.hid (by rw [HE1.out, many_at hfew hlt]; rfl)
                        have HR : Hid (allR f = []) := Lib.hid (by rw [HRR.out, HE.out]; rfl)
                        go_wp2
                        go_ret2
                        exact ⟨.slice none 0 0, by rw [HE.out]; rfl, by rw [HR.out]; exact OwnMat.nil _ _, HB15.out⟩
                      · have hfew' : decide (5040 < ((asgTo f (k + 1)).length : Int)) = false := decide_eq_false (by omega)
                        have HMY1 : Hid (manyTo f (k + 1) = false) := Lib.hid (by simp only [manyTo, HMY.out, Bool.false_or]; exact decide_eq_false hfew)
                        have HBX15 := Lib.hid (HBX.out.ext (HB12.out.trans (HNB.out.mono HB12.out.size)))
                        go_wp2
                        go_roundw
                        case rel => exact ⟨k + 1, by omega, by go_num, ⟨HO15.out, HMY1.out, HB15.out⟩, HBX15.out⟩
                        case measure => simp [intOf]; omega
              · obtain rfl : k = f.lots.length := by omega
                have hlt' : decide ((f.lots.length : Int) < f.lots.length) = false := decide_eq_false (by omega)
                have HE : Hid (allE f = 0) := Lib.hid (by rw [HE1.out, HMY.out]; rfl)
                have HR : Hid (allR f = asgTo f f.lots.length) := Lib.hid (by rw [HRR.out, HE.out]; rfl)
                go_wp2
                go_ret2
                exact ⟨_, by rw [HE.out]; rfl, by rw [HR.out]; exact HM.out, HBB.out⟩
  · have h1' : (checkE f != 0) = true := by simpa using h1
    have HE : Hid (allE f = checkE f) := Lib.hid (by rw [HER.out, if_pos h1])
    have HR : Hid (allR f = []) := Lib.hid (by rw [HRR.out, HE.out, if_neg h1])
    clear h1
    go_enter Try.func16, Try.ntmps16
    go_wp2_with (go_at_call 22; refine (HCK.out _).mono ?_; rintro e w5 ⟨rfl, hb5⟩; have HB5 := Lib.hid hb5; clear hb5)
    go_ret2
    exact ⟨.slice none 0 0, by rw [HE.out]; rfl, by rw [HR.out]; exact OwnMat.nil _ _, (box_below' w _).trans (HB5.out.mono (by simp))⟩

end Go.Proofs.Ythekefnocphcdaa

set_option linter.unusedVariables false

set_option linter.unusedSimpArgs false

namespace Go.Proofs.Ythekefnocphcdaa

open Go.RowKit

set_option maxHeartbeats 2000000 in
set_option maxRecDepth 100000 in
/-- slices.Clone of what is not nil -/
theorem clone_any (B b off cap : Nat) (w : World) (xs : List Int) (hx : IsInts B w (.slice (some ⟨b, off, none⟩) xs.length cap) xs) (hB : B ≤ w.heap.size) :
    Calls Try.prog 49 #[.slice (some ⟨b, off, none⟩) xs.length cap] w fun e w' => ∃ v, e = .returned v ∧ OwnInts w.heap.size w' v xs ∧ Below w.heap.size w w' := by
  have HX := Lib.hid hx
  have HB := Lib.hid hB
  clear hx hB
  have hnil : (binOp .eql 34 (.slice (some ⟨b, off, none⟩) xs.length cap) (.slice none 0 0)).run Try.prog w = .ok (.bool false) w := Go.Lib.run_eql_slice_nil w _ _ _ _ _ _ _ Try.underlying34
  go_enter Try.func49, Try.ntmps49
  go_wp2_with (at_builtin; refine append_intsA (B := w.heap.size) (xs := []) rfl _ _ rfl xs rfl (OwnInts.made (Nat.le_refl _)) rfl ?a1 ?a2 ?a3 ?a4 ?a5)
  case a1 => exact (HX.out.below ((Below.refl B w).alloc HB.out _) (Nat.le_refl _)).src
  case a2 => obtain ⟨_, _, _, _, _, h, _⟩ := HX.out; exact h
  case a3 => obtain ⟨_, _, _, _, h, _⟩ := HX.out; simpa using h
  case a4 => simp
  case a5 =>
    intro v' w' h1 h2 h3
    have HO := Lib.hid h1
    have HG := Lib.hid h2
    clear h1 h2 h3
    go_wp2
    go_ret
    exact ⟨_, rfl, by simpa using HO.out, (box_below' w _).grown HG.out (by simp) (fun k hk => by simp [Value.ownBlock] at hk; omega)⟩

/-- the beginning of an array of eight numbers as a slice -/
theorem ints8 {w : World} {b n : Nat} {l : List Int} (h : Box w b (l.map (Value.int .i64)).toArray) (hl : l.length = 8) (hz : ∀ x ∈ l, I64 x) (hn : n ≤ 8) : IsInts w.heap.size w (.slice (some ⟨b, 0, none⟩) n 8) (l.take n) := by
  have hlen : (l.take n).length = n := by rw [List.length_take]; omega
  refine ⟨b, 0, 8, ⟨some ⟨b, 0, none⟩, by rw [hlen], by omega, by omega, Or.inl rfl⟩, by omega, fun x hx => hz x (List.mem_of_mem_take hx), fun j hj => ⟨h.1, ?_⟩⟩
  rw [h.2, Nat.zero_add, nth_lt hj]
  have hj' : j < l.length := by omega
  simp [hj']

set_option maxHeartbeats 2000000 in
set_option maxRecDepth 100000 in
/-- the closure of count.All that cuts an array -/
theorem cut_any (w : World) (k : K8) (bf : Nat) (vl : Value) (n : Nat) (hn : n ≤ 8) (hx : Box w bf #[.int .i64 (n : Int), vl]) :
    Calls Try.prog 48 #[enc8 k, .pointer (some ⟨bf, 0, none⟩)] w fun e w' => ∃ v, e = .returned v ∧ OwnInts w.heap.size w' v (k.1.take n) ∧ Below w.heap.size w w' := by
  obtain ⟨zx, rx⟩ := hx
  have r0 := rx 0
  simp only [List.getElem?_toArray, List.getElem?_cons_zero] at r0
  have hn9 : (n : Int) ≤ 8 := by omega
  clear rx
  have hk : enc8 k = .agg (k.1.map (Value.int .i64)).toArray := rfl
  rw [hk]
  have HKL := Lib.hid k.2.1
  have HKI := Lib.hid k.2.2
  obtain ⟨l, hl⟩ := k
  obtain ⟨arr, harr⟩ : ∃ arr, (l.map (Value.int .i64)).toArray = arr := ⟨_, rfl⟩
  simp only [harr]
  have HAR := Lib.hid harr
  clear harr hk
  have hlen : (l.take n).length = n := by have := HKL.out; rw [List.length_take]; omega
  have hcl := clone_any _ w.heap.size 0 8 (w.alloc (.cells arr 64)) (l.take n) (by rw [hlen]; exact ints8 (by rw [HAR.out]; exact Box.new w arr _) HKL.out HKI.out hn) (Nat.le_refl _)
  rw [hlen] at hcl
  have HCL := Lib.hid hcl
  clear hcl hlen hn HKL HKI hl
  go_enter Try.func48, Try.ntmps48
  go_wp2_with (go_at_call 49; refine HCL.out.mono ?_; rintro e w5 ⟨v, rfl, h1, h2⟩; have H1 := Lib.hid h1; have H2 := Lib.hid h2; clear h1 h2)
  go_ret
  exact ⟨_, rfl, H1.out.mono (by simp), (box_below' w _).trans (H2.out.mono (by simp))⟩

end Go.Proofs.Ythekefnocphcdaa

set_option linter.unusedVariables false

set_option linter.unusedSimpArgs false

namespace Go.Proofs.Ythekefnocphcdaa

open Go.RowKit Go.MapKept

section

variable {α : Type} {enc : α → Value} {P : Program} {w : World} {ops : Array Oper} {rest : List Oper} {o : Oper} {a : Act} {Q : Exit → Act → World → Prop}

theorem KIter.count {bm r : Nat} {l left : List (α × Value)} (h : KIter enc w bm r l left) : iterLeft w bm r = left.length := by
  obtain ⟨es, c, seen, c0, h1, h2, h3, h4, h5, h6⟩ := h
  unfold iterLeft
  rw [h1, h2]
  have := congrArg List.length h6
  simpa using this

theorem wpList_next_kdone {bm r : Nat} {l left : List (α × Value)} (hg : Region.wanted o (yielded ops a.tmps) = true) (it : Operand) (hop : o.op = Op.next it false) (hit : a.eval it = .pointer (some ⟨r, 0, none⟩)) (h : KIter enc w bm r l left) (hne : r ≠ bm) (he : left = [])
    (hk : wpList P ops Q rest (a.put o.dst (.tuple #[.bool false])) w) : wpList P ops Q (o :: rest) a w :=
  wpList_next_k hg it hop hit h hne (fun _ => hk) (fun A x v B w' e => by rw [he] at e; simp at e)

theorem wpList_next_kmore {bm r : Nat} {l left : List (α × Value)} (hg : Region.wanted o (yielded ops a.tmps) = true) (it : Operand) (hop : o.op = Op.next it false) (hit : a.eval it = .pointer (some ⟨r, 0, none⟩)) (h : KIter enc w bm r l left) (hne : r ≠ bm) (he : left ≠ [])
    (hk : ∀ (A : List (α × Value)) (x : α) (v : Value) (B : List (α × Value)) (w' : World), left = A ++ (x, v) :: B → KIter enc w' bm r l (A ++ B) → w.grownBy w' (some r) → w'.heap.size = w.heap.size →
      (Instr.entry (.pointer (some ⟨r, 0, none⟩))).run P w' = .ok (.tuple #[enc x, v]) w' → wpList P ops Q rest (a.put o.dst (.tuple #[.bool true, enc x, v])) w') : wpList P ops Q (o :: rest) a w :=
  wpList_next_k hg it hop hit h hne (fun e => absurd e he) hk

end

end Go.Proofs.Ythekefnocphcdaa

set_option linter.unusedVariables false

set_option linter.unusedSimpArgs false

namespace Go.Proofs.Ythekefnocphcdaa

open Go.RowKit

theorem OwnInts.iter {C r : Nat} {w w' : World} {v : Value} {xs : List Int} (h : OwnInts C w v xs) (hg : w.grownBy w' (some r)) (hr : ∀ c t f, w.heap[r]? ≠ some (.cells c t f)) : OwnInts C w' v xs := by
  refine h.kept hg ?_
  rcases h.1.2 with ⟨rfl, _⟩ | ⟨g, cap, cur, rfl, hb, hgc, _⟩
  · exact Or.inl rfl
  · right
    simp only [Value.ownBlock, ne_eq, Option.some.injEq]
    rintro rfl
    exact hr _ _ _ hgc

theorem OwnMat.iter {C r : Nat} {w w' : World} {v : Value} {rows : List (List Int)} (h : OwnMat C w v rows) (hg : w.grownBy w' (some r)) (hr : ∀ c t f, w.heap[r]? ≠ some (.cells c t f)) : OwnMat C w' v rows := by
  obtain ⟨vals, h1, h2, h3⟩ := h
  refine ⟨vals, h1.kept hg ?_, h2, fun j hj => (h3 j hj).iter hg hr⟩
  rcases h1.2 with ⟨rfl, _⟩ | ⟨g, cap, cur, rfl, hb, hgc, _⟩
  · exact Or.inl rfl
  · right
    simp only [Value.ownBlock, ne_eq, Option.some.injEq]
    rintro rfl
    exact hr _ _ _ hgc

theorem KIter.notCells {enc : K8 → Value} {w : World} {bm r : Nat} {l left : List (K8 × Value)} (h : KIter enc w bm r l left) : (∀ c t f, w.heap[r]? ≠ some (.cells c t f)) ∧ ∀ c t f, w.heap[bm]? ≠ some (.cells c t f) := by
  obtain ⟨es, c, seen, c0, a, b, _⟩ := h
  exact ⟨fun _ _ _ e => by (rw [b] at e; cases e), fun _ _ _ e => by (rw [a] at e; cases e)⟩

theorem OwnMat.notIn {C r : Nat} {w : World} {v : Value} {rows : List (List Int)} (h : OwnMat C w v rows) (hr : ∀ c t f, w.heap[r]? ≠ some (.cells c t f)) : v.ownBlock ≠ some r := by
  obtain ⟨vals, h1, _⟩ := h
  rcases h1.2 with ⟨rfl, _⟩ | ⟨g, cap, cur, rfl, hb, hgc, _⟩
  · simp [Value.ownBlock]
  · simp only [Value.ownBlock, ne_eq, Option.some.injEq]
    rintro rfl
    exact hr _ _ _ hgc

/-- what sorted has gathered -/
def GathRel (w : World) (bm ri n : Nat) (Ls : List (K8 × Value)) (v : Value) (wr : World) : Prop :=
  ∃ left rows, KIter enc8 wr bm ri Ls left ∧ OwnMat w.heap.size wr v rows ∧ (rows ++ left.map fun p => p.1.1.take n).Perm (Ls.map fun p => p.1.1.take n) ∧ Below w.heap.size w wr

set_option maxHeartbeats 4000000 in
set_option maxRecDepth 100000 in
theorem csorted_any (w : World) (bm bf n : Nat) (Ls : List (K8 × Value)) (vl : Value) (hn : n ≤ 8) (hm : KMap enc8 w bm Ls) (hx : Box w bf #[.int .i64 (n : Int), vl]) (hne : Ls ≠ []) (hlen : Ls.length ≤ 100000) :
    Calls Try.prog 47 #[.map (some bm), .func (.func 48) #[] #[.pointer (some ⟨bf, 0, none⟩)]] w fun e w' => ∃ v rows, e = .returned v ∧ OwnMat w.heap.size w' v rows ∧
      rows.Perm (Ls.map fun p => p.1.1.take n) ∧ rows.Pairwise (fun a b => ¬ cmpL b a < 0) ∧ Below w.heap.size w w' := by
  have HM := Lib.hid hm
  have HX := Lib.hid hx
  have HN := Lib.hid hn
  have HNE := Lib.hid hne
  have HLN := Lib.hid hlen
  have hbm := hm.lt
  clear hm hx hn hne hlen
  go_enter Try.func47, Try.ntmps47
  go_wp2_with (at_range; refine wpList_range_k rfl (.tmp 6) rfl Try.underlying65 rfl HM.out ?_; intro w9 hit9 hb9 hz9; have HIT9 := Lib.hid hit9; have HB9 := Lib.hid hb9; have HZ9 := Lib.hid hz9; clear hit9 hb9 hz9)
  have hne9 : w.heap.size ≠ bm := by omega
  have HR9 : Hid (GathRel w bm w.heap.size n Ls (.slice none 0 0) w9) := Lib.hid ⟨Ls, [], HIT9.out, OwnMat.nil _ _, by simp, HB9.out⟩
  go_simp
  go_loopw [4] (fun v W => GathRel w bm w.heap.size n Ls v W) (fun _ W => iterLeft W bm w.heap.size)
  case atStart => exact HR9.out
  case round =>
    obtain ⟨left, rows, hit, hown, hperm, hbl⟩ := hrel
    have HIT := Lib.hid hit
    have HLEFT := Lib.hid hit.count
    have HOWN := Lib.hid hown
    have HPERM := Lib.hid hperm
    have HBL := Lib.hid hbl
    have hrl : rows.length + left.length = Ls.length := by simpa using hperm.length_eq
    have HRL := Lib.hid hrl
    clear HR9 hit hperm hbl hrl
    obtain ⟨wA, rfl⟩ : ∃ W, W = wr := ⟨_, rfl⟩
    by_cases hlw : left = []
    · have HLW := Lib.hid hlw
      have hrn : rows ≠ [] := by
        intro e
        have h1 := HRL.out
        rw [e, hlw] at h1
        exact HNE.out (List.length_eq_zero_iff.1 (by simpa using h1.symm))
      have HSR := Lib.hid (sort_rows hown hrn)
      have HLT := Lib.hid (fun k hk => hown.choose_spec.1.lt k hk)
      clear hown hrn
      go_wp2_with (first
        | (at_next; refine wpList_next_kdone rfl (.tmp 7) rfl rfl HIT.out hne9 HLW.out ?_)
        | (go_at_call 86; refine HSR.out.mono ?_; rintro e w5 ⟨rfl, rows', h1, h2, h3, h4⟩; have H1 := Lib.hid h1; have H2 := Lib.hid h2; have H3 := Lib.hid h3; have H4 := Lib.hid h4; clear h1 h2 h3 h4))
      go_ret
      refine ⟨_, rfl, rows', H1.out, ?_, H3.out.imp (fun h => by omega), HBL.out.grown H4.out HBL.out.size (fun k hk => (HLT.out k hk).1)⟩
      have h := HPERM.out
      rw [HLW.out, List.map_nil, List.append_nil] at h
      exact H2.out.trans h
    · have HNN := Lib.hid hlw
      clear hown
      go_wp2_with (first
        | (at_next; refine wpList_next_kmore rfl (.tmp 7) rfl rfl HIT.out hne9 HNN.out ?_; intro A x v B w3 hlw2 hit3 hg3 hz3 hen; have HIT3 := Lib.hid hit3; have HG3 := Lib.hid hg3; have HLW2 := Lib.hid hlw2; have HZ3 := Lib.hid hz3; rw [enc8_arr8 x] at hen ⊢; obtain ⟨arr, harr⟩ : ∃ arr, arrN x.1 = arr := ⟨_, rfl⟩; have HAR := Lib.hid harr; have HX8 := Lib.hid x.2.1; have HRW := Lib.hid (Row8.new w3 x.2.1); have HB3 : Hid (Below w.heap.size w w3) := Lib.hid (HBL.out.grown hg3 HBL.out.size (fun j hj => by cases hj; exact Nat.le_refl _)); have HCUT := Lib.hid (cut_any (w3.alloc (.cells (arrN x.1) 64)) x bf vl n HN.out ((HX.out.below HB3.out HX.out.1).alloc _)); have HO3 := Lib.hid (HOWN.out.iter hg3 HIT.out.notCells.1); rw [enc8_arr8, harr] at HCUT; rw [harr] at hen HRW ⊢; clear hit3 hg3 hz3 hlw2 harr)
        | ((with_reducible refine wpList_store8 (.tmp 5) (.tmp 11) HX8.out ?_ ?_ ?_ ?_ ?_); rotate_left; rfl; rfl; rfl; (rw [HAR.out]; rfl); rw [HAR.out])
        | ((with_reducible refine wpList_load8 (.tmp 5) HRW.out ?_ ?_ ?_ ?_); rotate_left; rfl; rfl; rfl; rw [HAR.out])
        | (go_at_call 48; refine HCUT.out.mono ?_; rintro e w5 ⟨v5, rfl, ho5, hb5⟩; obtain ⟨a5, n5, c5, rfl⟩ := ho5.form'; have HO5 := Lib.hid ho5; have HB5 : Hid (Below w3.heap.size w3 w5) := Lib.hid ((box_below' w3 _).trans (hb5.mono (by simp))); clear ho5 hb5)
        | (at_builtin; refine append_row_at (B := w.heap.size) (xs := x.1.take n) (r := .slice a5 n5 c5) rfl (.tmp 12) (.tmp 16) rfl rfl ((HO3.out.below HB5.out).alloc _) rfl ?c1 ((HO5.out.mono ?c2).alloc _) ?c3 ?c4 ?c5))
      try (case c1 => exact World.cell?_alloc_at _ _ _ _ rfl)
      case c2 => have := HB3.out.size; simp; omega
      case c3 => have := HRL.out; have := HLN.out; omega
      case c4 => have := HB3.out.size; have := HB5.out.size; simp; omega
      case c5 =>
        intro v6 w6 ho6 hg6 hat6
        have HO6 := Lib.hid ho6
        have HB6 : Hid (Below w.heap.size w w6) := Lib.hid (((HB3.out.trans (HB5.out.mono HB3.out.size)).alloc (by have := HB3.out.size; have := HB5.out.size; omega) _).grown hg6 (by have := HB3.out.size; have := HB5.out.size; simp; omega) (fun q hq => by obtain ⟨vals, hv, _⟩ := HO3.out; exact (hv.lt q hq).1))
        have HI6 : Hid (KIter enc8 w6 bm w.heap.size Ls (A ++ B)) := Lib.hid (by
          have h1 := (HIT3.out.ext HB5.out).alloc (.cells #[Value.slice a5 n5 c5] 34)
          have h2 := (HO3.out.below HB5.out).alloc (.cells #[Value.slice a5 n5 c5] 34)
          exact h1.kept hg6 (fun e => h2.notIn h1.notCells.2 e.symm) (fun e => h2.notIn h1.notCells.1 e.symm))
        clear ho6 hg6 hat6
        go_wp2
        go_roundw
        case rel =>
          refine ⟨A ++ B, _, HI6.out, HO6.out, ?_, HB6.out⟩
          have h := HPERM.out
          rw [HLW2.out] at h
          refine List.Perm.trans ?_ h
          simp only [List.map_append, List.map_cons, List.append_assoc]
          refine List.Perm.append_left _ ?_
          rw [List.singleton_append]
          exact (List.perm_middle (a := x.1.take n)).symm
        case measure =>
          rw [HI6.out.count, HLEFT.out, HLW2.out]
          simp

end Go.Proofs.Ythekefnocphcdaa

set_option linter.unusedVariables false

set_option linter.unusedSimpArgs false

namespace Go.Proofs.Ythekefnocphcdaa

open Go.RowKit

def sortI (l : List Int) : List Int := l.mergeSort fun x y => decide (x ≤ y)

theorem sortI_perm (l : List Int) : (sortI l).Perm l := List.mergeSort_perm _ _

theorem sort_own {C : Nat} {w : World} {v : Value} {xs : List Int} (h : OwnInts C w v xs) :
    Calls Try.prog 45 #[v] w fun e w' => e = .returned (.tuple #[]) ∧ OwnInts C w' v (sortI xs) ∧ w.grownBy w' v.ownBlock := by
  have hlen : (sortI xs).length = xs.length := (sortI_perm xs).length_eq
  obtain ⟨⟨hl, h1⟩, h2, h3⟩ := h
  have h3' : ∀ x ∈ sortI xs, I64 x := fun x hx => h3 x ((sortI_perm xs).mem_iff.1 hx)
  rcases h1 with ⟨rfl, hn⟩ | ⟨g, cap, cur, rfl, hb, hg, hnc, hcm, hcs, htk⟩
  · refine (Try.slices_Sort_int_none none 0 w).mono ?_
    rintro e w' ⟨rfl, rfl⟩
    obtain rfl : xs = [] := List.length_eq_zero_iff.1 hn
    exact ⟨rfl, by rw [show sortI [] = [] from by unfold sortI; simp]; exact OwnInts.nil _ _, World.grownBy.refl _ _⟩
  · have hgl := (Array.getElem?_eq_some_iff.1 hg).1
    have hcell : ∀ j, j < xs.length → cur[j]? = some (.int .i64 (nth xs j)) := by
      intro j hj
      have : (cur.toList.take (xs.length * 1))[j]? = (xs.map (Value.int .i64))[j]? := by rw [htk]
      rw [List.getElem?_take, if_pos (by omega), List.getElem?_map, List.getElem?_eq_getElem hj] at this
      rw [nth_eq_getElem hj]
      simpa using this
    refine (Try.slices_Sort_int g 0 cap xs w (fun j hj => ?_) hgl (by unfold maxLen at hcm; omega)).mono ?_
    · have hj' : j < xs.length := by simpa using hj
      refine ⟨?_, by simp [World.frozen?, hg]⟩
      simp only [World.cell?, hg, Nat.zero_add]
      rw [hcell j hj', nth_eq_getElem hj']
      simp [hj']
    · rintro e w' ⟨rfl, n, os, rfl⟩
      obtain ⟨ds, hds⟩ : ∃ ds, sortI xs = ds := ⟨_, rfl⟩
      rw [show (xs.mergeSort fun x y => decide (x ≤ y)) = ds from hds]
      rw [hds] at hlen h3' ⊢
      have hblk : (Go.Sort.grow (Go.Sort.putRow (Value.int .i64) (Go.Sort.ahead w n) g 0 ds.toArray) os).heap[g]? = some (.cells (Go.Sort.putCells (Value.int .i64) 0 ds.toArray cur) 3 (0, 0)) := by
        unfold Go.Sort.grow Go.Sort.putRow Go.Sort.mapBlock
        show ((w.heap.modify g _) ++ os)[g]? = _
        rw [Array.getElem?_append_left (by simpa using hgl), Array.getElem?_modify, if_pos rfl, hg]
        rfl
      have hoth : ∀ k, k < w.heap.size → k ≠ g → (Go.Sort.grow (Go.Sort.putRow (Value.int .i64) (Go.Sort.ahead w n) g 0 ds.toArray) os).heap[k]? = w.heap[k]? := by
        intro k hk hne
        unfold Go.Sort.grow Go.Sort.putRow Go.Sort.mapBlock
        show ((w.heap.modify g _) ++ os)[k]? = _
        rw [Array.getElem?_append_left (by simpa using hk), Array.getElem?_modify, if_neg (fun e => hne e.symm)]
      refine ⟨rfl, ⟨⟨by simp, Or.inr ⟨g, cap, _, by rw [hlen], hb, hblk, by omega, hcm, ?_, ?_⟩⟩, by omega, h3'⟩, ⟨rfl, rfl, rfl, ?_, fun k hk hne => hoth k hk (fun e => hne (by rw [e]; rfl))⟩⟩
      · unfold Go.Sort.putCells
        simpa using hcs
      · apply List.ext_getElem?
        intro i
        rw [List.getElem?_take, List.getElem?_map]
        by_cases hi : i < ds.length
        · rw [if_pos (by omega), List.getElem?_eq_getElem hi]
          unfold Go.Sort.putCells
          have hic : i < cur.size := by omega
          simp [hic, hi]
        · rw [if_neg (by omega), List.getElem?_eq_none (by omega)]
          rfl
      · unfold Go.Sort.grow Go.Sort.putRow Go.Sort.mapBlock
        show w.heap.size ≤ ((w.heap.modify g _) ++ os).size
        simp

end Go.Proofs.Ythekefnocphcdaa

set_option linter.unusedVariables false

set_option linter.unusedSimpArgs false

namespace Go.Proofs.Ythekefnocphcdaa

open Go.RowKit

section

variable {F : Fence} {n : Nat} {P : Program} {ops : Array Oper} {Q : Exit → Act → World → Prop}

def InvStepIn (F : Fence) (n : Nat) (P : Program) (ops : Array Oper) (Q : Exit → Act → World → Prop) (I : (Nat → Bool) → Act → World → Prop) (i : Nat) (o : Oper) : Prop :=
  ∀ (L : Nat → Bool) (a : Act) (w : World), L i = false → allOn L (depsOf o) → I L a w →
    ∀ K : Act → World → Prop, Shut (∀ a' w', I (upd L i) a' w' → K a' w') → if Region.wanted o (yielded ops a.tmps) = true then Oper.wpIn F n P o a w K Q else (∀ f, o.about P w a.eval = some f → F.fn f) ∧ K (a.put o.dst undef) w

def InvStepsIn (F : Fence) (n : Nat) (P : Program) (ops : Array Oper) (Q : Exit → Act → World → Prop) (I : (Nat → Bool) → Act → World → Prop) : Nat → List Oper → Prop
  | _, [] => True
  | k, o :: r => InvStepIn F n P ops Q I k o ∧ InvStepsIn F n P ops Q I (k + 1) r

theorem InvStepsIn.at {I : (Nat → Bool) → Act → World → Prop} : ∀ {l : List Oper} {k : Nat}, InvStepsIn F n P ops Q I k l → ∀ {i : Nat} {o : Oper}, l[i]? = some o → InvStepIn F n P ops Q I (k + i) o
  | [], _, _, i, o, ho => by simp at ho
  | o' :: r, k, h, 0, o, ho => by
    simp at ho
    subst ho
    exact h.1
  | o' :: r, k, h, i + 1, o, ho => by
    have := InvStepsIn.at h.2 (i := i) (o := o) (by simpa using ho)
    rw [show k + (i + 1) = k + 1 + i by omega]
    exact this

theorem wpAnyIn_inv {l : List Oper} (hb : backB 0 l = true) {I : (Nat → Bool) → Act → World → Prop} (hs : InvStepsIn F n P l.toArray Q I 0 l)
    (he : ∀ (L : Nat → Bool) a w, (∀ i, i < l.length → L i = true) → I L a w → Q .normal a w) :
    ∀ (fuel : Nat) (listed : Array Bool) (a : Act) (w : World), listed.size = l.length → leftN (fun j => listed.getD j false) l.length ≤ fuel → I (fun j => listed.getD j false) a w →
      wpAnyIn F n P .any l.toArray Q fuel listed a w := by
  have hfull : ∀ (listed : Array Bool), listed.size = l.length → Region.ready .any l.toArray listed = [] → ∀ n, n ≤ l.length → ∀ i, i < n → listed.getD i false = true := by
    intro listed hz hr n
    induction n with
    | zero => intro _ i hi; omega
    | succ n ih =>
      intro hn i hi
      rcases Nat.lt_or_ge i n with h1 | h1
      · exact ih (by omega) i h1
      · obtain rfl : i = n := by omega
        by_cases hh : listed.getD i false = true
        · exact hh
        · exfalso
          have hmem : i ∈ Region.ready .any l.toArray listed := by
            unfold Region.ready
            refine List.mem_filter.2 ⟨by simp; omega, ?_⟩
            have e1 : listed.getD i true = false := by
              have : i < listed.size := by omega
              simp [Array.getD_eq_getD_getElem?, this] at hh ⊢
              exact hh
            have hlt : i < l.length := by omega
            have e2 : l.toArray[i]? = some l[i] := by simp
            rw [e1, e2]
            simp only [Bool.not_false, Bool.true_and, Option.map_some, Option.getD_some]
            rw [Array.all_eq_true_iff_forall_mem]
            intro e hme
            by_cases hbd : Region.binds .any e = true
            · have : e.on ∈ depsOf l[i] := List.mem_map.2 ⟨e, List.mem_filter.2 ⟨by simpa using hme, hbd⟩, rfl⟩
              have h2 := backB_at hb (i := i) (o := l[i]) (by simp) _ this
              simp [ih (by omega) e.on (by omega)]
            · simp [hbd]
          rw [hr] at hmem
          cases hmem
  intro fuel
  induction fuel with
  | zero =>
    intro listed a w hz hl hI
    have hall := leftN_zero _ (Nat.le_zero.1 hl)
    refine ⟨?_, he _ a w hall hI⟩
    refine List.eq_nil_iff_forall_not_mem.2 fun i hi => ?_
    unfold Region.ready at hi
    obtain ⟨h1, h2⟩ := List.mem_filter.1 hi
    have hlt : i < l.length := by simpa using h1
    have h3 := hall i hlt
    have : i < listed.size := by omega
    simp [Array.getD_eq_getD_getElem?, this] at h3 h2
    rw [h3] at h2
    exact absurd h2.1 (by simp)
  | succ fuel ih =>
    intro listed a w hz hl hI
    refine ⟨fun hr => he _ a w (hfull listed hz hr l.length (Nat.le_refl _)) hI, fun i hi => ?_⟩
    have hi' := hi
    unfold Region.ready at hi'
    obtain ⟨h1, h2⟩ := List.mem_filter.1 hi'
    have hlt : i < l.length := by simpa using h1
    have hlz : i < listed.size := by omega
    have e2 : l.toArray[i]? = some l[i] := by simp
    rw [e2] at h2
    simp only [Option.map_some, Option.getD_some, Bool.and_eq_true] at h2
    have hL : listed.getD i false = false := by
      have := h2.1
      simp [Array.getD_eq_getD_getElem?, hlz] at this ⊢
      exact this
    have hdeps : allOn (fun j => listed.getD j false) (depsOf l[i]) := allOn_mem fun d hd => by
      obtain ⟨e, he1, rfl⟩ := List.mem_map.1 hd
      obtain ⟨he2, he3⟩ := List.mem_filter.1 he1
      have := (Array.all_eq_true_iff_forall_mem.1 h2.2) e (by simpa using he2)
      simpa [he3] using this
    have hstep := InvStepsIn.at hs (i := i) (o := l[i]) (by simp)
    rw [Nat.zero_add] at hstep
    refine wpOpIn_step e2 fun K' hK => ?_
    refine hstep _ a w hL hdeps hI K' ?_
    intro a' w' hI'
    refine hK a' w' (ih _ a' w' (by simp [hz]) ?_ ?_)
    · rw [upd_listed hlz]
      have := leftN_upd (L := fun j => listed.getD j false) hL l.length hlt
      omega
    · rw [upd_listed hlz]; exact hI'

/-- a region whose order is drawn, by an invariant -/
theorem wpIn_region_inv {id : Nat} {l : List Oper} {a : Act} {w : World} (I : Act → (Nat → Bool) → Act → World → Prop) (hm : P.follows .mixedOrders = true) (hb : backB 0 l = true)
    (h0 : I a (fun _ => false) a w.drew) (hs : InvStepsIn F n P l.toArray Q (I a) 0 l) (he : ∀ (L : Nat → Bool) a' w', (∀ i, i < l.length → L i = true) → I a L a' w' → Q .normal a' w') : (Code.region id l.toArray true).wpIn F n P Q a w := by
  refine wpIn_region_any hm ?_
  have hfun : (fun j => (Array.replicate l.toArray.size false).getD j false) = fun _ => false := by
    funext j
    simp [Array.getD_eq_getD_getElem?, Array.getElem?_replicate]
    by_cases h : j < l.length <;> simp [h]
  have hle : ∀ n, leftN (fun _ => false) n ≤ n := by
    intro n
    induction n with
    | zero => simp [leftN]
    | succ n ih => simp [leftN]; exact ih
  refine wpAnyIn_inv hb hs he _ _ _ _ (by simp) ?_ ?_
  · rw [hfun]; simpa using hle l.length
  · rw [hfun]; exact h0

end

section

variable {F : Fence} {n : Nat} {P : Program} {ops : Array Oper} {Q : Exit → Act → World → Prop}

def VStepIn (F : Fence) (n : Nat) (P : Program) (ops : Array Oper) (Q : Exit → Act → World → Prop) (ds : List (Option Nat)) (a0 : Act) (J : (Nat → Bool) → World → (Nat → Value) → Prop) (i : Nat) (o : Oper) : Prop :=
  ∀ (L : Nat → Bool) (a' : Act) (w' : World) (xs : Nat → Value), L i = false → allOn L (depsOf o) → FrameV a0 ds L xs a' → J L w' xs →
    ∀ K : Act → World → Prop, Shut (∀ v w'', J (upd L i) w'' (updV xs i v) → K (a'.put o.dst v) w'') → if Region.wanted o (yielded ops a'.tmps) = true then Oper.wpIn F n P o a' w' K Q else (∀ f, o.about P w' a'.eval = some f → F.fn f) ∧ K (a'.put o.dst undef) w'

def VStepsIn (F : Fence) (n : Nat) (P : Program) (ops : Array Oper) (Q : Exit → Act → World → Prop) (ds : List (Option Nat)) (a0 : Act) (J : (Nat → Bool) → World → (Nat → Value) → Prop) : Nat → List Oper → Prop
  | _, [] => True
  | k, o :: r => VStepIn F n P ops Q ds a0 J k o ∧ VStepsIn F n P ops Q ds a0 J (k + 1) r

theorem VStepsIn.inv {ds : List (Option Nat)} {a0 : Act} {J : (Nat → Bool) → World → (Nat → Value) → Prop} (hi : dsInj ds = true) (hn : dsBd a0.tmps.size ds = true) : ∀ {l : List Oper} {k : Nat}, (∀ i o, l[i]? = some o → ds[k + i]? = some o.dst) → VStepsIn F n P ops Q ds a0 J k l →
    InvStepsIn F n P ops Q (fun L a' w' => ∃ xs, FrameV a0 ds L xs a' ∧ J L w' xs) k l
  | [], _, _, _ => trivial
  | o :: r, k, hd, h => by
    refine ⟨?_, VStepsIn.inv hi hn (fun i o' ho => ?_) h.2⟩
    · intro L a' w' hL hdep hI K hK
      obtain ⟨xs, hf, hJ⟩ := hI
      exact h.1 L a' w' xs hL hdep hf hJ K (show ∀ v w'', J (upd L k) w'' (updV xs k v) → K (a'.put o.dst v) w'' from fun v w'' hJ' => hK.out _ _ ⟨_, hf.put hi hn (by simpa using hd 0 o rfl) v, hJ'⟩)
    · have := hd (i + 1) o' (by simpa using ho)
      rw [show k + 1 + i = k + (i + 1) by omega]
      exact this

/-- a region whose order is drawn, by what its slots hold -/
theorem wpIn_region_V {id : Nat} {l : List Oper} {a : Act} {w : World} (ds : List (Option Nat)) (J : (Nat → Bool) → World → (Nat → Value) → Prop) (hm : P.follows .mixedOrders = true) (hb : backB 0 l = true) (hds : l.map (·.dst) = ds) (hi : dsInj ds = true) (hn : dsBd a.tmps.size ds = true)
    (h0 : ∀ xs, J (fun _ => false) w.drew xs) (hs : VStepsIn F n P l.toArray Q ds a J 0 l) (he : ∀ (L : Nat → Bool) w' xs, (∀ i, i < ds.length → L i = true) → J L w' xs → Q .normal (putGo xs 0 ds a) w') : (Code.region id l.toArray true).wpIn F n P Q a w := by
  have hlen : ds.length = l.length := by rw [← hds]; simp
  refine wpIn_region_inv (fun a0 L a' w' => ∃ xs, FrameV a0 ds L xs a' ∧ J L w' xs) hm hb ⟨fun _ => undef, FrameV.start _ _ _, h0 _⟩ (VStepsIn.inv hi hn (fun i o ho => ?_) hs) ?_
  · rw [← hds, Nat.zero_add, List.getElem?_map, ho]; rfl
  · rintro L a' w' hL ⟨xs, hf, hJ⟩
    rw [hf.final hi hn (fun i h => hL i (by omega))]
    exact he L w' xs (fun i h => hL i (by omega)) hJ

end

end Go.Proofs.Ythekefnocphcdaa

set_option linter.unusedVariables false

set_option linter.unusedSimpArgs false

namespace Go.Proofs.Ythekefnocphcdaa

open Go.RowKit Go.Maps

section

variable {F : Fence} {nF : Nat} {ops : Array Oper} {rest : List Oper} {o : Oper} {a : Act} {w : World} {Q : Exit → Act → World → Prop}

theorem wpListIn_load8 (x : Operand) {b : Nat} {l : List Int} (h : Row8 w b l) (hk : wpListIn F nF Try.prog ops Q rest (a.put o.dst (.agg (arrN l))) w) (hgd : o.guard = none) (ho : o.op = .load 64 x) (hx : a.eval x = .pointer (some ⟨b, 0, none⟩)) :
    wpListIn F nF Try.prog ops Q (o :: rest) a w := by
  refine wpListIn_plain hgd fun K hK => ?_
  have hr := run_loadVar_row (P := Try.prog) w b 64 64 (arrN l) (0, 0) _ h.1 Try.underlying64 rfl (by rw [arrN_size, h.2]; kernel_rfl)
  unfold Oper.wpIn
  refine ⟨by simp [Oper.about, ho], ?_⟩
  rw [Oper.semAt_plain F _ _ (by rw [ho]; intro c hc'; cases hc')]
  unfold execOp
  simp only [ho, hx, Instr.loadAt, Instr.sureAddr, Sem.run_bind, Sem.run_pure, Result.andThen_ok, hr]
  exact hK _ _ hk

theorem wpListIn_store8 (p v : Operand) {l : List Int} (hl : l.length = 8) (hk : wpListIn F nF Try.prog ops Q rest (a.put o.dst undef) (w.alloc (.cells (arrN l) 64))) (hgd : o.guard = none) (ho : o.op = .store 64 p v) (hp : a.eval p = .pointer (some ⟨w.heap.size, 0, none⟩)) (hv : a.eval v = .agg (arrN l)) :
    wpListIn F nF Try.prog ops Q (o :: rest) a (w.alloc (.cells #[.int .i64 0, .int .i64 0, .int .i64 0, .int .i64 0, .int .i64 0, .int .i64 0, .int .i64 0, .int .i64 0] 64)) := by
  refine wpListIn_plain hgd fun K hK => ?_
  have hr := run_storeAt_new (P := Try.prog) w 64 #[.int .i64 0, .int .i64 0, .int .i64 0, .int .i64 0, .int .i64 0, .int .i64 0, .int .i64 0, .int .i64 0] (arrN l) (by rw [info8, arrN_size, hl]) (by rw [arrN_size, hl]; rfl) (arrN_one l)
  unfold Oper.wpIn
  refine ⟨by simp [Oper.about, ho], ?_⟩
  rw [Oper.semAt_plain F _ _ (by rw [ho]; intro c hc'; cases hc')]
  simp only [execOp, ho, hp, hv]
  simp [hr, Result.andThen]
  exact hK _ _ hk

theorem wpListIn_update_k {α : Type} {enc : α → Value} {P : Program} {T K E : TypeId} {r : Nat} {l : List (α × Value)} [DecidableEq α] (C : KeyEnc P K enc) (hg : Region.wanted o (yielded ops a.tmps) = true) (m xo vo : Operand) (hop : o.op = Op.mapUpdate T m xo vo)
    (hT : P.underlying T = some (.map K E)) (hm : a.eval m = .map (some r)) (h : KMap enc w r l) {x : α} {v : Value} (hx : a.eval xo = enc x) (hv : a.eval vo = v)
    (hk : ∀ w', KMap enc w' r (kset l x v) → w.grownBy w' (some r) → w'.heap.size = w.heap.size → wpListIn F nF P ops Q rest (a.put o.dst undef) w') : wpListIn F nF P ops Q (o :: rest) a w := by
  refine wpListIn_want hg fun K' hK' => ?_
  obtain ⟨w', hrun, h1, h2, h3⟩ := run_update_k C hT h x v
  unfold Oper.wpIn
  refine ⟨by simp [Oper.about, hop], ?_⟩
  rw [Oper.semAt_plain F _ _ (by rw [hop]; intro c hc'; cases hc')]
  simp only [execOp, hop, hm, hx, hv]
  simp [hrun, Result.andThen]
  exact hK' _ _ (hk w' h1 h2 h3)

end

def keys8 (S : List K8) : List (K8 × Value) := S.map fun κ => (κ, Value.bool true)

def addK (S : List K8) (x : K8) : List K8 := if x ∈ S then S else S ++ [x]

theorem mem_addK {S : List K8} {x y : K8} : y ∈ addK S x ↔ y = x ∨ y ∈ S := by
  unfold addK
  split
  · rename_i h
    constructor
    · exact .inr
    · rintro (rfl | h')
      · exact h
      · exact h'
  · simp [or_comm]

theorem keys8_keys (S : List K8) : (keys8 S).map (·.1) = S := by
  unfold keys8
  rw [List.map_map]
  conv => rhs; rw [← List.map_id S]
  rfl

theorem keys8_len (S : List K8) : (keys8 S).length = S.length := by unfold keys8; simp

theorem kset_keys8 : ∀ (S : List K8) (x : K8), kset (keys8 S) x (.bool true) = keys8 (addK S x)
  | [], x => rfl
  | κ :: S, x => by
    have ih := kset_keys8 S x
    unfold keys8 addK at ih ⊢
    simp only [List.map_cons, kset]
    by_cases h : κ = x
    · subst h; simp
    · rw [if_neg h, ih]
      have h' : ¬ x = κ := fun e => h e.symm
      by_cases hm : x ∈ S
      · simp [hm]
      · simp [hm, h']

theorem klook_keys8 : ∀ (S : List K8) (x : K8), (klook (keys8 S) x).getD (.bool false) = .bool (decide (x ∈ S))
  | [], x => rfl
  | κ :: S, x => by
    have ih := klook_keys8 S x
    unfold keys8 at ih ⊢
    simp only [List.map_cons, klook]
    by_cases h : κ = x
    · subst h; simp
    · rw [if_neg h, ih]
      have h' : ¬ x = κ := fun e => h e.symm
      simp [h']

theorem keys8_nodup {w : World} {b : Nat} {S : List K8} (h : KMap enc8 w b (keys8 S)) : S.Nodup := by
  have := h.nodup encK8
  rwa [keys8_keys] at this

end Go.Proofs.Ythekefnocphcdaa

set_option linter.unusedVariables false

set_option linter.unusedSimpArgs false

namespace Go.Proofs.Ythekefnocphcdaa

theorem pad8_ex {p : List Int} (hl : p.length ≤ 8) (hz : ∀ x ∈ p, 0 ≤ x ∧ x ≤ 1000000) : ∃ y : K8, y.1 = padL p :=
  ⟨⟨padL p, padL_len hl, fun x hx => by rcases padL_mem hx with h | h; have := hz x h; unfold I64; omega; rw [h]; unfold I64; omega⟩, rfl⟩

/-- the arrays of a list of states -/
def Shows (N : List K8) (L : List (List Int)) : Prop := ∀ y : K8, y ∈ N ↔ ∃ x ∈ L, y.1 = padL x

theorem nodup_val {N : List K8} (h : N.Nodup) : (N.map fun y => y.1).Nodup := List.pairwise_map.2 (h.imp fun {a b} hne e => hne (Subtype.ext e))

theorem shows_le {N : List K8} {L : List (List Int)} {n : Nat} (hN : N.Nodup) (hs : ∀ y ∈ N, ∃ x ∈ L, y.1 = padL x) : N.length ≤ L.length := by
  have h := nodup_lenG (l := N.map fun y => y.1) (m := L.map padL) (nodup_val hN) (fun v hv => by
    obtain ⟨y, hy, rfl⟩ := List.mem_map.1 hv
    obtain ⟨x, hx, e⟩ := hs y hy
    exact List.mem_map.2 ⟨x, hx, e.symm⟩)
  simpa using h

theorem shows_ge {N : List K8} {L : List (List Int)} {n : Nat} (hL : L.Nodup) (hlen : ∀ x ∈ L, x.length = n) (hs : ∀ x ∈ L, ∃ y ∈ N, y.1 = padL x) : L.length ≤ N.length := by
  have hn : (L.map padL).Nodup := List.pairwise_map.2 (hL.imp_of_mem fun {a b} ha hb hne e => hne (padL_inj e (by rw [hlen a ha, hlen b hb])))
  have h := nodup_lenG (l := L.map padL) (m := N.map fun y => y.1) hn (fun v hv => by
    obtain ⟨x, hx, rfl⟩ := List.mem_map.1 hv
    obtain ⟨y, hy, e⟩ := hs x hx
    exact List.mem_map.2 ⟨y, hy, e⟩)
  simpa using h

/-- what the loop over the states holds: what is left, the next states, the ones met -/
structure StP (f : Flow) (k : Nat) (Kl N M : List K8) : Prop where
  left : ∀ κ ∈ Kl, ∃ p ∈ asgTo f k, κ.1 = padL p
  nd : Kl.Nodup
  next : ∀ y : K8, y ∈ N ↔ ∃ p ∈ asgTo f k, (∀ κ ∈ Kl, κ.1 ≠ padL p) ∧ ∃ x ∈ outsL f k p, y.1 = padL x
  met : ∀ z ∈ M, ∃ p ∈ asgTo f k, (∀ κ ∈ Kl, κ.1 ≠ padL p) ∧ ∃ s : List Int, s.Perm (ofL p (lotAt f.lots k).ins) ∧ z.1 = padL (putsL (beforeI f k) s (idL (lotAt f.lots k).ins.length) p)

variable {f : Flow} {k : Nat} {N M N' M' A B : List K8} {κ : K8} {p : List Int}

theorem StP.start {S : List K8} (hS : Shows S (asgTo f k)) (hn : S.Nodup) (hex : ∀ p ∈ asgTo f k, ∃ y : K8, y.1 = padL p) : StP f k S [] [] := by
  refine ⟨fun κ hκ => (hS κ).1 hκ, hn, fun y => ⟨fun h => (by cases h), ?_⟩, fun z hz => by cases hz⟩
  rintro ⟨p, hp, hno, _⟩
  obtain ⟨y, hy⟩ := hex p hp
  exact absurd hy (hno y ((hS y).2 ⟨p, hp, hy⟩))

theorem StP.apart (h : StP f k (A ++ κ :: B) N M) (hκ : κ.1 = padL p) : ∀ κ' ∈ A ++ B, κ'.1 ≠ padL p := by
  intro κ' h' e
  have e2 : κ' = κ := Subtype.ext (e.trans hκ.symm)
  subst e2
  have := (List.perm_middle (a := κ') (l₁ := A) (l₂ := B)).nodup_iff.1 h.nd
  exact (List.nodup_cons.1 this).1 h'

theorem StP.lose (h : StP f k (A ++ κ :: B) N M) : (∀ κ' ∈ A ++ B, ∃ p ∈ asgTo f k, κ'.1 = padL p) ∧ (A ++ B).Nodup := by
  refine ⟨fun κ' h' => h.left κ' ?_, ?_⟩
  · rcases List.mem_append.1 h' with h' | h'
    · exact List.mem_append_left _ h'
    · exact List.mem_append_right _ (List.mem_cons_of_mem _ h')
  · have := (List.perm_middle (a := κ) (l₁ := A) (l₂ := B)).nodup_iff.1 h.nd
    exact (List.nodup_cons.1 this).2

theorem StP.still {p' : List Int} (hno : ∀ κ' ∈ A ++ κ :: B, κ'.1 ≠ padL p') : ∀ κ' ∈ A ++ B, κ'.1 ≠ padL p' := fun κ' h' => hno κ' (by
  rcases List.mem_append.1 h' with h' | h'
  · exact List.mem_append_left _ h'
  · exact List.mem_append_right _ (List.mem_cons_of_mem _ h'))

theorem StP.more {p' : List Int} (hno : ∀ κ' ∈ A ++ B, κ'.1 ≠ padL p') (hκ : κ.1 ≠ padL p') : ∀ κ' ∈ A ++ κ :: B, κ'.1 ≠ padL p' := fun κ' h' => by
  rcases List.mem_append.1 h' with h' | h'
  · exact hno κ' (List.mem_append_left _ h')
  · rcases List.mem_cons.1 h' with rfl | h'
    · exact hκ
    · exact hno κ' (List.mem_append_right _ h')

/-- a state and all that it leads to -/
theorem StP.full (h : StP f k (A ++ κ :: B) N M) (hκ : κ.1 = padL p) (hp : p ∈ asgTo f k) (hN : ∀ y : K8, y ∈ N' ↔ y ∈ N ∨ ∃ x ∈ outsL f k p, y.1 = padL x)
    (hM : ∀ z ∈ M', z ∈ M ∨ ∃ s : List Int, s.Perm (ofL p (lotAt f.lots k).ins) ∧ z.1 = padL (putsL (beforeI f k) s (idL (lotAt f.lots k).ins.length) p)) : StP f k (A ++ B) N' M' := by
  have hap := h.apart hκ
  refine ⟨h.lose.1, h.lose.2, fun y => ?_, fun z hz => ?_⟩
  · rw [hN y, h.next y]
    constructor
    · rintro (⟨p', h1, h2, h3⟩ | ⟨x, hx, e⟩)
      · exact ⟨p', h1, StP.still h2, h3⟩
      · exact ⟨p, hp, hap, x, hx, e⟩
    · rintro ⟨p', h1, h2, h3⟩
      by_cases e : κ.1 = padL p'
      · have : p = p' := padL_inj (hκ.symm.trans e) (by rw [asg_len k p hp, asg_len k p' h1])
        subst this
        exact .inr h3
      · exact .inl ⟨p', h1, StP.more h2 e, h3⟩
  · rcases hM z hz with hz | hz
    · obtain ⟨p', h1, h2, h3⟩ := h.met z hz
      exact ⟨p', h1, StP.still h2, h3⟩
    · exact ⟨p, hp, hap, hz⟩

/-- a state that leads to what has come already -/
theorem StP.skip (h0 : 0 ≤ f.senders) (hl : lotsB f f.lots.length = true) (hk : k < f.lots.length) (h : StP f k (A ++ κ :: B) N M) (hκ : κ.1 = padL p) (hp : p ∈ asgTo f k) (hu : (lotAt f.lots k).known = false) {z : K8} (hz : z ∈ M) {s : List Int}
    (hs : s.Perm (ofL p (lotAt f.lots k).ins)) (he : z.1 = padL (putsL (beforeI f k) s (idL (lotAt f.lots k).ins.length) p)) : StP f k (A ++ B) N M := by
  have hlk : lotsB f k = true := by
    cases h : lotsB f k with
    | true => rfl
    | false => rw [lotsB_false h (Nat.le_of_lt hk)] at hl; cases hl
  obtain ⟨p2, g1, g2, s2, g3, g4⟩ := h.met z hz
  have hlen : (putsL (beforeI f k) s (idL (lotAt f.lots k).ins.length) p).length = (putsL (beforeI f k) s2 (idL (lotAt f.lots k).ins.length) p2).length := by rw [putsL_len, putsL_len, asg_len k p hp, asg_len k p2 g1]
  have hsame := outs_same (lotsB_lot hl hk) (asg_all h0 k hlk p hp) (asg_all h0 k hlk p2 g1) hu hs g3 (padL_inj (he.symm.trans g4) hlen)
  have hN : ∀ y : K8, y ∈ N ↔ y ∈ N ∨ ∃ x ∈ outsL f k p, y.1 = padL x := fun y => by
    constructor
    · exact .inl
    · rintro (h' | ⟨x, hx, e⟩)
      · exact h'
      · exact (h.next y).2 ⟨p2, g1, g2, x, (hsame x).1 hx, e⟩
  exact h.full hκ hp hN (fun z hz => .inl hz)

theorem StP.done (h : StP f k [] N M) : Shows N (asgTo f (k + 1)) := by
  intro y
  rw [h.next y]
  constructor
  · rintro ⟨p, hp, _, x, hx, e⟩
    obtain ⟨π, hπ, rfl⟩ := List.mem_map.1 hx
    exact ⟨_, mem_asgTo.2 ⟨p, hp, π, hπ, rfl⟩, e⟩
  · rintro ⟨x, hx, e⟩
    obtain ⟨p, hp, π, hπ, rfl⟩ := mem_asgTo.1 hx
    exact ⟨p, hp, (fun κ hκ => by cases hκ), _, List.mem_map.2 ⟨π, hπ, rfl⟩, e⟩

theorem StP.le {Kl : List K8} (h : StP f k Kl N M) (hN : N.Nodup) : N.length ≤ (asgTo f (k + 1)).length := by
  refine shows_le (n := 0) hN fun y hy => ?_
  obtain ⟨p, hp, _, x, hx, e⟩ := (h.next y).1 hy
  obtain ⟨π, hπ, rfl⟩ := List.mem_map.1 hx
  exact ⟨_, mem_asgTo.2 ⟨p, hp, π, hπ, rfl⟩, e⟩

theorem shows_len {S : List K8} {m : Nat} (hS : Shows S (asgTo f m)) (hn : S.Nodup) (hex : ∀ p ∈ asgTo f m, ∃ y : K8, y.1 = padL p) : S.length = (asgTo f m).length := by
  refine Nat.le_antisymm (shows_le (n := 0) hn fun y hy => (hS y).1 hy) (shows_ge (n := f.senders.toNat) (srt_nodup (asg_srt m)) (fun x hx => asg_len m x hx) fun x hx => ?_)
  obtain ⟨y, hy⟩ := hex x hx
  exact ⟨y, (hS y).2 ⟨x, hx, hy⟩, hy⟩

theorem asg_vals {m : Nat} (h0 : 0 ≤ f.senders) (h8 : f.senders ≤ 8) (hl : lotsB f m = true) (hb : beforeI f m ≤ 50000) : ∀ p ∈ asgTo f m, ∃ y : K8, y.1 = padL p := by
  intro p hp
  refine pad8_ex (by rw [asg_len m p hp]; omega) fun x hx => ?_
  have := ((asg_all h0 m hl p hp).2 x).1 hx
  omega

/-- in the end: what sorted returns are the assignments, in order -/
theorem shows_sorted {S : List K8} {m n : Nat} (hn : f.senders.toNat = n) (hS : Shows S (asgTo f m)) (hS2 : S.Nodup) (hex : ∀ p ∈ asgTo f m, ∃ y : K8, y.1 = padL p) {rows : List (List Int)} (hp : rows.Perm (S.map fun κ => κ.1.take n))
    (hs : rows.Pairwise fun a b => ¬ cmpL b a < 0) : rows = asgTo f m := by
  have hmem : ∀ x, x ∈ rows ↔ x ∈ asgTo f m := by
    intro x
    rw [hp.mem_iff, List.mem_map]
    constructor
    · rintro ⟨κ, hκ, rfl⟩
      obtain ⟨p, hp, e⟩ := (hS κ).1 hκ
      rw [e]
      have hl := asg_len m p hp
      rw [← hn, ← hl, padL_take]
      exact hp
    · intro hx
      obtain ⟨y, hy⟩ := hex x hx
      refine ⟨y, (hS y).2 ⟨x, hx, hy⟩, ?_⟩
      rw [hy, ← hn, ← asg_len m x hx, padL_take]
  have hnd : rows.Nodup := by
    refine hp.nodup_iff.2 (List.pairwise_map.2 (hS2.imp_of_mem fun {a b} ha hb hne e => hne ?_))
    obtain ⟨p, hp, e1⟩ := (hS a).1 ha
    obtain ⟨q, hq, e2⟩ := (hS b).1 hb
    refine Subtype.ext ?_
    rw [e1, e2] at e ⊢
    have h1 := padL_take p
    have h2 := padL_take q
    rw [asg_len m p hp, hn] at h1
    rw [asg_len m q hq, hn] at h2
    rw [h1, h2] at e
    rw [e]
  refine srt_ext ?_ (asg_srt m) hmem
  refine List.Pairwise.imp_of_mem (fun {a b} ha hb hab => ?_) (hs.and hnd)
  have hla := asg_len m a ((hmem a).1 ha)
  have hlb := asg_len m b ((hmem b).1 hb)
  rcases ltL_total (show a.length = b.length by rw [hla, hlb]) hab.2 with h | h
  · exact h
  · exact absurd ((cmpL_lt (by rw [hla, hlb])).2 h) hab.1

end Go.Proofs.Ythekefnocphcdaa

set_option linter.unusedVariables false

set_option linter.unusedSimpArgs false

namespace Go.Proofs.Ythekefnocphcdaa

open Go.RowKit Go.Maps

/-- the marks of loops over functions that are over -/
def marksOf (rs : List Nat) : List Deferred := rs.map fun r => { target := .collected r, args := #[] }

structure MarksOk (B : Nat) (rs : List Nat) (W : World) : Prop where
  nd : rs.Nodup
  at_ : ∀ r ∈ rs, B ≤ r ∧ W.heap[r]? = some (.deferred (some []))

theorem MarksOk.nil (B : Nat) (W : World) : MarksOk B [] W := ⟨List.nodup_nil, fun r h => by cases h⟩

theorem MarksOk.cons {B d : Nat} {rs : List Nat} {W : World} (h : MarksOk B rs W) (hd : B ≤ d) (hk : W.heap[d]? = some (.deferred (some []))) (hn : d ∉ rs) : MarksOk B (d :: rs) W :=
  ⟨List.nodup_cons.2 ⟨hn, h.nd⟩, fun r hr => by
    rcases List.mem_cons.1 hr with rfl | hr
    · exact ⟨hd, hk⟩
    · exact h.at_ r hr⟩

theorem MarksOk.turned {X : Nat → Prop} {B : Nat} {rs : List Nat} {W W' : World} (h : MarksOk B rs W) (ht : Turned X W W') (hx : ∀ r ∈ rs, ¬ X r) : MarksOk B rs W' :=
  ⟨h.nd, fun r hr => ⟨(h.at_ r hr).1, (ht.block r (Array.getElem?_eq_some_iff.1 (h.at_ r hr).2).1 (hx r hr)).trans (h.at_ r hr).2⟩⟩

theorem MarksOk.lt {B : Nat} {rs : List Nat} {W : World} (h : MarksOk B rs W) : ∀ r ∈ rs, r < W.heap.size := fun r hr => (Array.getElem?_eq_some_iff.1 (h.at_ r hr).2).1

theorem MarksOk.ext {B : Nat} {rs : List Nat} {W W' : World} (h : MarksOk B rs W) (hb : Below W.heap.size W W') : MarksOk B rs W' := h.turned (X := fun _ => False) (Turned.of_below hb) (fun _ _ h => h)

theorem MarksOk.grown {B r : Nat} {rs : List Nat} {W W' : World} (h : MarksOk B rs W) (hg : W.grownBy W' (some r)) (hr : W.heap[r]? ≠ some (.deferred (some []))) : MarksOk B rs W' :=
  h.turned (X := fun k => k = r) (Turned.of_grown hg (fun k e => by cases e; rfl)) (fun k hk e => by subst e; exact hr (h.at_ k hk).2)

/-- a function that leaves with marks among its deferred calls -/
theorem leaves_marks {F : Fence} {n : Nat} {P : Program} {fn : Func} {tmps : Array Value} {R : Ending → World → Prop} {B : Nat} : ∀ (rs : List Nat) (W : World), MarksOk B rs W →
    (∀ W', Turned (fun k => k ∈ rs) W W' → ∃ v, (results fn tmps).run P W' = .ok v W' ∧ R (.returned v) W') → LeavesInM F n P fn tmps R (marksOf rs) .returning W
  | [], W, _, h => h W (Turned.refl _ _)
  | r :: rs, W, hm, h => by
    have hk := (hm.at_ r (by simp)).2
    have hn := List.nodup_cons.1 hm.nd
    refine ⟨by simp, .inl ⟨r, _, rfl, run_takeDeferred hk, ?_⟩⟩
    have hm' : MarksOk B rs (W.putObj r (.deferred none)) := ⟨hn.2, fun q hq => ⟨(hm.at_ q (List.mem_cons_of_mem _ hq)).1, (World.putObj_heap_other (fun e => hn.1 (by rw [← e]; exact hq))).trans (hm.at_ q (List.mem_cons_of_mem _ hq)).2⟩⟩
    refine leaves_marks rs _ hm' fun W' ht => h W' ?_
    exact (Turned.putObj (X := fun k => k ∈ r :: rs) W r (.deferred none) (by simp)).trans (ht.mono fun k _ hk => List.mem_cons_of_mem _ hk)

theorem OwnInts.turnedX {X : Nat → Prop} {C : Nat} {w w' : World} {v : Value} {xs : List Int} (h : OwnInts C w v xs) (ht : Turned X w w') (hx : ∀ k c t f, w.heap[k]? = some (.cells c t f) → ¬ X k) : OwnInts C w' v xs := by
  obtain ⟨⟨hl, h1⟩, h2, h3⟩ := h
  refine ⟨⟨hl, ?_⟩, h2, h3⟩
  rcases h1 with h1 | ⟨g, cap, cur, hv, hb, hg, rest⟩
  · exact Or.inl h1
  · exact Or.inr ⟨g, cap, cur, hv, hb, (ht.block g (Array.getElem?_eq_some_iff.1 hg).1 (hx g _ _ _ hg)).trans hg, rest⟩

theorem OwnMat.turnedX {X : Nat → Prop} {C : Nat} {w w' : World} {v : Value} {rows : List (List Int)} (h : OwnMat C w v rows) (ht : Turned X w w') (hx : ∀ k c t f, w.heap[k]? = some (.cells c t f) → ¬ X k) : OwnMat C w' v rows := by
  obtain ⟨vals, ⟨hl, h1⟩, h2, h3⟩ := h
  refine ⟨vals, ⟨hl, ?_⟩, h2, fun j hj => (h3 j hj).turnedX ht hx⟩
  rcases h1 with h1 | ⟨g, cap, cur, hv, hb, hg, rest⟩
  · exact Or.inl h1
  · exact Or.inr ⟨g, cap, cur, hv, hb, (ht.block g (Array.getElem?_eq_some_iff.1 hg).1 (hx g _ _ _ hg)).trans hg, rest⟩

theorem MarksOk.notCells {B : Nat} {rs : List Nat} {W : World} (h : MarksOk B rs W) : ∀ k c t f, W.heap[k]? = some (.cells c t f) → ¬ k ∈ rs := fun k c t f hk hm => by
  rw [(h.at_ k hm).2] at hk; cases hk

section

variable {α : Type} {enc : α → Value} {P : Program} {w : World} {T K E : TypeId} {r : Nat} {l : List (α × Value)} {ops : Array Oper} {rest : List Oper} {o : Oper} {a : Act} {Q : Exit → Act → World → Prop}

theorem wpList_insert_k [DecidableEq α] (C : KeyEnc P K enc) (hg : Region.wanted o (yielded ops a.tmps) = true) (m xo vo : Operand) (hop : o.op = Op.insert T m xo vo)
    (hT : P.underlying T = some (.map K E)) (hm : a.eval m = .map (some r)) (h : KMap enc w r l) {x : α} {v : Value} (hx : a.eval xo = enc x) (hv : a.eval vo = v)
    (hk : ∀ w', KMap enc w' r (kset l x v) → w.grownBy w' (some r) → w'.heap.size = w.heap.size → wpList P ops Q rest (a.put o.dst undef) w') : wpList P ops Q (o :: rest) a w := by
  refine wpList_wantK hg fun K' hK' => ?_
  obtain ⟨w', hrun, h1, h2, h3⟩ := run_update_k C hT h x v
  unfold Oper.wp
  simp only [execOp, hop, hm, hx, hv]
  simp [hrun, Result.andThen]
  exact hK' _ _ (hk w' h1 h2 h3)

theorem KMap.obj (h : KMap enc w r l) : ∃ es c, w.heap[r]? = some (.map es c) ∧ es.size = l.length := by
  obtain ⟨es, c, h1, _, h3⟩ := h
  refine ⟨es, c, h1, ?_⟩
  have := congrArg List.length h3
  simpa using this

theorem KMap.len {R : TypeId} (h : KMap enc w r l) (hT : P.underlying T = some (.map K E)) : (Builtin.len_ #[T] R #[.map (some r)]).run P w = .ok (.int .i64 l.length) w := by
  obtain ⟨es, c, h1, h2⟩ := h.obj
  have hg : (getObj r).run P w = .ok (.map es c) w := Go.MapKept.run_getObj_map h1
  simp [Builtin.len_, run_underlying hT, hg, Result.andThen, goInt, h2]

theorem KMap.turned {X : Nat → Prop} {w' : World} (h : KMap enc w r l) (ht : Turned X w w') (hx : ¬ X r) : KMap enc w' r l := by
  obtain ⟨es, c, h1, h2⟩ := h
  exact ⟨es, c, (ht.block r (Array.getElem?_eq_some_iff.1 h1).1 hx).trans h1, h2⟩

theorem KIter.turned {X : Nat → Prop} {w' : World} {bm : Nat} {left : List (α × Value)} (h : KIter enc w bm r l left) (ht : Turned X w w') (h1 : ¬ X bm) (h2 : ¬ X r) : KIter enc w' bm r l left := by
  obtain ⟨es, c, seen, c0, a, b, rest⟩ := h
  exact ⟨es, c, seen, c0, (ht.block bm (Array.getElem?_eq_some_iff.1 a).1 h1).trans a, (ht.block r (Array.getElem?_eq_some_iff.1 b).1 h2).trans b, rest⟩

end

theorem Row8.turned {X : Nat → Prop} {w w' : World} {b : Nat} {l : List Int} (h : Row8 w b l) (ht : Turned X w w') (hx : ¬ X b) : Row8 w' b l := ⟨(ht.block b h.lt hx).trans h.1, h.2⟩

theorem Row8.box {w : World} {b : Nat} {l : List Int} (h : Row8 w b l) : Box w b (l.map (Value.int .i64)).toArray := by
  refine ⟨h.lt, fun i => ?_⟩
  simp only [World.cell?, h.1]
  rfl

end Go.Proofs.Ythekefnocphcdaa
