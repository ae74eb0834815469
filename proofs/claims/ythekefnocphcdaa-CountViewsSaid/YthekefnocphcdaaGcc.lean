/- Layers B28h B28i Lit B28j S28c S28e S28f RegInv RegApp KMaps KIter C0 C1 C2 C3 C4 C5 C6 C7 C8 C9 C10 RangeB Pm1 Pm2: the walks and the plain laws under the last text, merged and cut to what it uses; nothing is assumed. -/
import Derived.WalkKit
import Derived.Deep.RegionHeld
import Derived.Test.YthekefnocphcdaaProg
import Derived.MapKept
import Derived.RangeFuncRecord
import Derived.Maps.OwnOps
import Derived.Maps.OwnSet
import Derived.Maps.RangeRun
import Derived.Test.YthekefnocphcdaaGcb

set_option linter.unusedVariables false

set_option linter.unusedSimpArgs false

namespace Go.Proofs.Ythekefnocphcdaa

open Go.RowKit

def one1 : Int → Int := fun _ => 1

def gW (ends : List Int) (rows : List (List Int)) (k : Nat) (T : Int) : Int := waysM ends (rows.drop k) T.toNat

/-- what holds at the head of Upper's loop over the rows -/
def UpRel (w7 : World) (ends : List Int) (rows : List (List Int)) (k : Nat) (v : Value) (wr : World) : Prop :=
  ∃ (bm : Nat) (L : WL), v = .map (some bm) ∧ w7.heap.size ≤ bm ∧ IntMap wr bm (walV L) ∧ WOk 6 L ∧ sumBy (gW ends rows k) L = waysS rows [] ∧ sumBy one1 L ≤ 6 ^ k ∧ Below w7.heap.size w7 wr

/-- what holds at the head of Upper's loop over the sets -/
def UpRel2 (w7 : World) (ends : List Int) (rows : List (List Int)) (k bm ri bn : Nat) (L : WL) (wr : World) : Prop :=
  ∃ (lw N : WL), MapIter wr bm ri (walV L) (walV lw) ∧ WOk 6 lw ∧ IntMap wr bn (walV N) ∧ WOk 6 N ∧ sumBy (gW ends rows (k + 1)) N + sumBy (gW ends rows k) lw = waysS rows [] ∧ sumBy one1 N + 6 * sumBy one1 lw ≤ 6 ^ (k + 1) ∧ Below w7.heap.size w7 wr

/-- what holds at the head of Upper's loop over the ends of a row -/
def UpRel3 (w7 : World) (ends row : List Int) (g : Int → Int) (T v : Int) (bm ri bn : Nat) (L lw N0 : WL) (i : Nat) (wr : World) : Prop :=
  ∃ N : WL, MapIter wr bm ri (walV L) (walV lw) ∧ IntMap wr bn (walV N) ∧ WOk 6 N ∧ sumBy g N = sumBy g N0 + giveTo ends row g T v i ∧ sumBy one1 N = sumBy one1 N0 + giveTo ends row one1 T v i ∧ Below w7.heap.size w7 wr

/-- what holds at the head of Upper's loop over the last map -/
def UpRel4 (w7 : World) (bm ri : Nat) (L : WL) (vt : Value) (wr : World) : Prop :=
  ∃ lw : WL, MapIter wr bm ri (walV L) (walV lw) ∧ WOk 6 lw ∧ sumBy one1 lw ≤ sumBy one1 L ∧ vt = .int .i64 (sumBy one1 L - sumBy one1 lw) ∧ Below w7.heap.size w7 wr

theorem WOk.mid {c : Nat} {A B : WL} {p : Int × Int} (h : WOk c (A ++ p :: B)) : WOk c (A ++ B) ∧ 0 ≤ p.1 ∧ p.1 < (2 : Int) ^ c ∧ 0 ≤ p.2 :=
  ⟨fun q hq => h q (by rcases List.mem_append.1 hq with hq | hq <;> simp [hq]), h p (by simp)⟩

theorem giveTo_le {ends row : List Int} {T v : Int} (hv : 0 ≤ v) {i : Nat} (hi : i ≤ 6) : 0 ≤ giveTo ends row one1 T v i ∧ giveTo ends row one1 T v i ≤ 6 * v := giveTo_one hv i hi

theorem sum_ge {c : Nat} {L : WL} (h : WOk c L) : 0 ≤ sumBy one1 L := (wlook_le_sum h 0).2

theorem IntMap.grownB {w w' : World} {r : Nat} {l : AL} {row : Option Nat} (h : IntMap w r l) (hg : w.grownBy w' row) (hr : some r ≠ row) : IntMap w' r l := by
  obtain ⟨es, c, a, rest⟩ := h
  exact ⟨es, c, (hg.block r (Array.getElem?_eq_some_iff.1 a).1 hr).trans a, rest⟩

theorem sumBy_zero_of_nil {g : Int → Int} {L : WL} (h : L = []) : sumBy g L = 0 := by rw [h]; rfl

theorem gW_end (ends : List Int) (rows : List (List Int)) (T : Int) : gW ends rows rows.length T = 1 := by
  unfold gW; rw [List.drop_length]; rfl

theorem sumBy_gW_end (ends : List Int) (rows : List (List Int)) (L : WL) : sumBy (gW ends rows rows.length) L = sumBy one1 L := by
  unfold sumBy one1; simp only [gW_end]

theorem UpRel3.skip {w7 : World} {ends row : List Int} {g : Int → Int} {T v : Int} {bm ri bn : Nat} {L lw N0 : WL} {i : Nat} {wr : World} (h : UpRel3 w7 ends row g T v bm ri bn L lw N0 i wr) (hi : i < row.length)
    (ht : T.toNat.testBit (ends.idxOf (nth row i)) = true) : UpRel3 w7 ends row g T v bm ri bn L lw N0 (i + 1) wr := by
  obtain ⟨N, h1, h2, h3, h4, h5, h6⟩ := h
  refine ⟨N, h1, h2, h3, ?_, ?_, h6⟩
  · rw [h4, giveTo_succ hi, ht]; simp
  · rw [h5, giveTo_succ hi, ht]; simp

theorem UpRel3.add {w7 : World} {ends row : List Int} {g : Int → Int} {T v : Int} {bm ri bn : Nat} {L lw N0 N : WL} {i : Nat} {wr w' : World}
    (h1 : MapIter wr bm ri (walV L) (walV lw)) (h3 : WOk 6 N) (h4 : sumBy g N = sumBy g N0 + giveTo ends row g T v i) (h5 : sumBy one1 N = sumBy one1 N0 + giveTo ends row one1 T v i) (h6 : Below w7.heap.size w7 wr)
    (hi : i < row.length) (hv : 0 ≤ v) {U : Int} (hU : U = ((T.toNat ||| 2 ^ ends.idxOf (nth row i) : Nat) : Int)) (hU2 : U < 64) (ht : T.toNat.testBit (ends.idxOf (nth row i)) = false)
    (hm : IntMap w' bn (walV (wset N U (wlook N U + v)))) (hg : wr.grownBy w' (some bn)) (hne : bm ≠ bn) (hne2 : ri ≠ bn) (hbn : w7.heap.size ≤ bn) :
    UpRel3 w7 ends row g T v bm ri bn L lw N0 (i + 1) w' := by
  have hU0 : 0 ≤ U := by rw [hU]; exact Int.natCast_nonneg _
  refine ⟨_, h1.kept hg (by simpa using hne) (by simpa using hne2), hm, WOk.wset h3 hU0 (by simpa using hU2) (by have := wlook_ge h3 U; omega), ?_, ?_, h6.grown hg h6.size (fun j hj => by cases hj; exact hbn)⟩
  · rw [sumBy_wset, h4, giveTo_succ hi, ht, hU]; simp; omega
  · rw [sumBy_wset, h5, giveTo_succ hi, ht, hU]; simp; omega

set_option maxHeartbeats 8000000 in
set_option maxRecDepth 100000 in
/-- bounds.Upper -/
theorem bupper_any (B : Nat) (w : World) (vs vl : Value) (f : Flow) (hf : IsFlow B w vs vl f) (hB : B ≤ w.heap.size) (h6 : f.senders ≤ 6 ∨ 12 < f.senders) :
    Calls Try.prog 38 #[.agg #[vs, vl]] w fun e w' => e = .returned (.tuple #[.int .i64 (upperR f), .int .i64 (upperE f)]) ∧ Below w.heap.size w w' := by
  have HF := Lib.hid hf
  obtain ⟨rfl, ⟨hs1, hs2⟩, hl⟩ := hf
  obtain ⟨b, off, cap, ⟨a, rfl, hcap, hmax, ha⟩, hlen, hc⟩ := hl
  clear hc ha
  have HC := Lib.hid (fun o => fcheck_any B (w.alloc o) _ _ f (HF.out.below (box_below hB o) (Nat.le_refl _)) (by simp; omega))
  have HER : Hid (upperE f = if checkE f ≠ 0 then checkE f else if 12 < f.senders then 2 else 0) := Lib.hid rfl
  have HRR : Hid (upperR f = if upperE f = 0 then waysS (rowsOf f) [] else 0) := Lib.hid rfl
  obtain ⟨ue, hue⟩ : ∃ x, upperE f = x := ⟨_, rfl⟩
  obtain ⟨ur, hur⟩ : ∃ x, upperR f = x := ⟨_, rfl⟩
  rw [hue] at HER HRR
  rw [hur] at HRR
  rw [hue, hur]
  clear hue hur
  have hmm := @run_makeMap Try.prog
  go_enter Try.func38, Try.ntmps38
  go_wp2_with fail
  refine (HC.out _).mono ?_
  rintro e w5 ⟨rfl, hb5⟩
  have HX5 := Lib.hid ((Box.new w #[.int .i64 f.senders, .slice a f.lots.length cap] 24).ext hb5)
  have HW5 : Hid (Below w.heap.size w w5) := Lib.hid ((box_below (Nat.le_refl _) _).trans (hb5.mono (by simp)))
  clear hb5
  obtain ⟨z5, r5⟩ := HX5.out
  by_cases h1 : checkE f = 0
  · have h1' : (checkE f != 0) = false := by simpa using h1
    have H1 := Lib.hid h1
    have HE1 : Hid (ue = if 12 < f.senders then 2 else 0) := Lib.hid (by rw [HER.out, if_neg (by simp [h1])])
    clear h1
    by_cases h2 : 12 < f.senders
    · have h2' : decide (12 < f.senders) = true := decide_eq_true h2
      have HE : Hid (ue = 2) := Lib.hid (by rw [HE1.out, if_pos h2])
      have HR : Hid (ur = 0) := Lib.hid (by rw [HRR.out, HE.out]; rfl)
      go_wp2
      go_ret2
      exact ⟨by rw [HE.out, HR.out]; rfl, HW5.out⟩
    · have h2' : decide (12 < f.senders) = false := decide_eq_false h2
      have HE : Hid (ue = 0) := Lib.hid (by rw [HE1.out, if_neg h2])
      have HR : Hid (ur = waysS (rowsOf f) []) := Lib.hid (by rw [HRR.out, HE.out]; rfl)
      have hs6 : f.senders ≤ 6 := by omega
      have HMR := Lib.hid (matR_ok H1.out)
      have HER2 : Hid (endsR f = endsL f) := Lib.hid (by unfold endsR; rw [if_pos H1.out])
      go_wp2_with fail
      refine (rmatrix_any B w5 _ _ f (HF.out.below HW5.out hB) (by have := HW5.out.size; omega)).mono ?_
      rintro e w6 ⟨vm, rfl, hom, hb6⟩
      rw [HMR.out] at hom
      have HW6 : Hid (Below w.heap.size w w6) := Lib.hid (HW5.out.trans (hb6.mono HW5.out.size))
      have HX6 := Lib.hid (HX5.out.ext hb6)
      have HOM6 := Lib.hid hom
      clear hb6 hom z5 r5
      obtain ⟨z6, r6⟩ := HX6.out
      go_wp2_with fail
      refine (fEnds_any B w6 _ _ f (HF.out.below HW6.out hB) (by have := HW6.out.size; omega)).mono ?_
      rintro e w7 ⟨ve, rfl, hoe, hb7⟩
      rw [HER2.out] at hoe
      have HW7 : Hid (Below w.heap.size w w7) := Lib.hid (HW6.out.trans (hb7.mono HW6.out.size))
      have HMM := Lib.hid ((HOM6.out.below hb7).isMat)
      have HEE := Lib.hid hoe.isInts
      have HRL := Lib.hid (rowsOf_le H1.out hs6)
      have HRI := Lib.hid (rowsOf_in (f := f))
      have hrn : (rowsOf f).length ≤ 6 := by rw [rowsOf_len]; omega
      have hen : (endsL f).length ≤ 6 := by have := ends_count H1.out; omega
      have HND : Hid (endsL f).Nodup := Lib.hid (endsTo_nodup f _)
      obtain ⟨rows, hrows⟩ : ∃ r, rowsOf f = r := ⟨_, rfl⟩
      obtain ⟨ends, hends⟩ : ∃ r, endsL f = r := ⟨_, rfl⟩
      rw [hrows] at HR HMM HRL HRI hrn
      rw [hends] at HEE HRI hen HND
      clear hb7 hoe z6 r6 hrows hends
      have HG0 : Hid (sumBy (gW ends rows 0) [(0, 1)] = waysS rows []) := Lib.hid (by
        simp only [sumBy, gW, List.map_cons, List.map_nil, List.sum_cons, List.sum_nil, List.drop_zero]
        have h := waysM_eq HND.out rows 0 [] HRI.out (fun x _ => by simp [hasB])
        show 1 * waysM ends rows 0 + 0 = _
        rw [h]
        omega)
      obtain ⟨ae, ne, ce, rfl⟩ : ∃ a n c, ve = .slice a n c := by obtain ⟨_, _, c, ⟨a, e, _⟩, _⟩ := HEE.out; exact ⟨a, _, c, e⟩
      obtain ⟨bm0, om0, cm0, ⟨am0, rfl, hcm0, hmm0, ham0⟩, hlm0, hcc0⟩ := HMM.out
      have HCM := Lib.hid hcc0
      have HAM := Lib.hid ham0
      clear hcc0 ham0
      go_wp2_with (refine wpList_insert_ints rfl (.tmp 41) (.const (.int .i64 0)) (.const (.int .i64 1)) rfl Try.underlying83 Try.underlying3 rfl (IntMap.made w7) (x := 0) (v := .int .i64 1) rfl rfl ?_; intro w8 hm8 hg8 hz8; have HM8 := Lib.hid hm8; have HB8 : Hid (Below w7.heap.size w7 w8) := Lib.hid ((box_below' w7 (.map #[] 0)).grown hg8 (by simp) (fun j hj => by cases hj; exact Nat.le_refl _)); clear hm8 hg8 hz8)
      have HREL : Hid (UpRel w7 ends rows 0 (.map (some w7.heap.size)) w8) := Lib.hid ⟨w7.heap.size, [(0, 1)], rfl, Nat.le_refl _, HM8.out, fun p hp => by simp at hp; subst hp; simp, HG0.out, by simp [sumBy, one1], HB8.out⟩
      go_loopw [6, 45] (fun vm vi wr => ∃ k : Nat, k ≤ rows.length ∧ vi = .int .i64 k ∧ UpRel w7 ends rows k vm wr) (fun _ vi _ => rows.length - (intOf vi).toNat)
      case atStart => exact ⟨0, by omega, rfl, HREL.out⟩
      case round =>
        obtain ⟨k, hk, rfl, bm, L, rfl, hbm, hmp, hok, hsg, hs1', hbl⟩ := hrel
        have HMP := Lib.hid hmp
        have HOK := Lib.hid hok
        have HSG := Lib.hid hsg
        have HS1 := Lib.hid hs1'
        have HBL := Lib.hid hbl
        clear HREL HG0 hmp hok hsg hs1' hbl
        by_cases hlt : k < rows.length
        · obtain rfl : am0 = some ⟨bm0, om0, none⟩ := by rcases HAM.out with ha | ha; exact ha; omega
          obtain ⟨vr, hcr, hrow⟩ := HCM.out k hlt
          have rc := (HBL.out.cell (p := ⟨bm0, om0 + k, none⟩) hcr.1).trans hcr.2
          have HDR := Lib.hid (drop_row hlt)
          have hrl := HRL.out _ (rowAt_in hlt)
          have HRIN := Lib.hid (HRI.out _ (rowAt_in hlt))
          obtain ⟨row, hrw⟩ : ∃ r, rowAt rows k = r := ⟨_, rfl⟩
          rw [hrw] at hrow HDR hrl HRIN
          have HROW := Lib.hid hrow
          obtain ⟨br, or_, cr, ⟨ar, rfl, hcr', hmr', har⟩, hlr, hzr, hccr⟩ := hrow
          have HCR := Lib.hid hccr
          have HAR := Lib.hid har
          have HGK : Hid (∀ T v : Int, v * gW ends rows k T = giveTo ends row (gW ends rows (k + 1)) T v row.length) := Lib.hid fun T v => by
            unfold gW
            rw [HDR.out]
            exact giveTo_ways.symm
          have hp6 := pow6_le (show k + 1 ≤ 6 by omega)
          have hbmr := HMP.out.lt
          clear hcr hrw hccr har hzr
          go_wp2_with (refine wpList_range_ints rfl (.tmp 50) rfl Try.underlying83 rfl (HMP.out.alloc _) ?_; intro w9 hit9 hb9 hz9; have HIT9 := Lib.hid hit9; have HB9 := Lib.hid hb9; have HZ9 := Lib.hid hz9; clear hit9 hb9 hz9)
          have HR2 : Hid (UpRel2 w7 ends rows k bm (wr.alloc (.map #[] 0)).heap.size wr.heap.size L w9) := Lib.hid (by
            refine ⟨L, [], HIT9.out, HOK.out, (IntMap.made wr).ext HB9.out, fun p hp => by simp at hp, ?_, ?_, (HBL.out.alloc HBL.out.size _).trans (HB9.out.mono (by have := HBL.out.size; simp; omega))⟩
            · rw [HSG.out]; simp [sumBy]
            · have := HS1.out
              have e : sumBy one1 [] = 0 := rfl
              rw [e, Int.pow_succ]
              omega)
          simp only [World.size_alloc] at HR2
          have hne : wr.heap.size + 1 ≠ bm := by omega
          have hnn : wr.heap.size ≠ bm ∧ w7.heap.size ≤ wr.heap.size := by have := HBL.out.size; omega
          clear HIT9 HB9 HZ9 rc
          obtain ⟨wA, rfl⟩ : ∃ W, W = wr := ⟨_, rfl⟩
          go_loopw [] (fun W => UpRel2 w7 ends rows k bm (wA.heap.size + 1) wA.heap.size L W) (fun W => iterLeft W bm (wA.heap.size + 1))
          case atStart => exact HR2.out
          case round =>
            obtain ⟨lw, N, hit, hokw, hmn, hokn, hsg2, hs2, hbl2⟩ := hrel
            have HIT := Lib.hid hit
            have HLEFT := Lib.hid hit.left
            have HOKW := Lib.hid hokw
            have HMN := Lib.hid hmn
            have HOKN := Lib.hid hokn
            have HSG2 := Lib.hid hsg2
            have HS2 := Lib.hid hs2
            have HBL2 := Lib.hid hbl2
            clear HR2 hit hokw hmn hokn hsg2 hs2 hbl2
            by_cases hlw : lw = []
            · go_wp2_with (refine wpList_next_done rfl (.tmp 51) rfl rfl HIT.out hne (by rw [hlw]; rfl) ?_)
              go_roundw
              case rel =>
                refine ⟨k + 1, by omega, by go_num, _, N, rfl, hnn.2, HMN.out, HOKN.out, ?_, ?_, HBL2.out⟩
                · have h := HSG2.out
                  have e : sumBy (gW ends rows k) lw = 0 := by rw [hlw]; rfl
                  omega
                · have h := HS2.out
                  have e : sumBy one1 lw = 0 := by rw [hlw]; rfl
                  omega
              case measure => simp [intOf]; omega
            · go_wp2_with (refine wpList_next_more rfl (.tmp 51) rfl rfl HIT.out hne hlw ?_; intro A x v B w3 hlw2 hit3 hg3 hz3 hen; have HIT3 := Lib.hid hit3; have HG3 := Lib.hid hg3; clear hit3 hg3 hz3)
              obtain ⟨hokr, hx0, hx1, hv0⟩ := WOk.mid (hlw2 ▸ HOKW.out)
              simp only at hx0 hx1 hv0
              obtain ⟨T, rfl⟩ : ∃ T : Nat, x = T := ⟨x.toNat, by omega⟩
              have hT : T < 64 := by omega
              have HOKR := Lib.hid hokr
              have HSM1 : Hid (sumBy one1 lw = sumBy one1 (A ++ B) + v) := Lib.hid (by rw [hlw2, sumBy_mid]; simp [one1])
              have HSMG : Hid (sumBy (gW ends rows k) lw = sumBy (gW ends rows k) (A ++ B) + giveTo ends row (gW ends rows (k + 1)) T v row.length) := Lib.hid (by rw [hlw2, sumBy_mid, ← HGK.out])
              have HLEN : Hid ((walV (A ++ B)).length < (walV lw).length) := Lib.hid (by rw [hlw2]; simp [walV])
              have HR3 : Hid (UpRel3 w7 ends row (gW ends rows (k + 1)) T v bm (wA.heap.size + 1) wA.heap.size L (A ++ B) N 0 w3) := Lib.hid (by
                refine ⟨N, HIT3.out, IntMap.grownB HMN.out HG3.out (by simp), HOKN.out, by simp [giveTo], by simp [giveTo], HBL2.out.grown HG3.out HBL2.out.size (fun j hj => by cases hj; omega)⟩)
              have HNV : Hid (0 ≤ sumBy one1 N ∧ sumBy one1 N + 6 * v ≤ 46656) := Lib.hid (by
                have h1 := sum_ge HOKN.out
                have h2 := sum_ge hokr
                have h3 := HSM1.out
                have h4 := HS2.out
                omega)
              obtain ⟨g, hg⟩ : ∃ g, gW ends rows (k + 1) = g := ⟨_, rfl⟩
              rw [hg] at HR3 HSMG HSG2
              have HGG := Lib.hid hg
              clear hg hokr hen HIT3 HG3 HMN hlw2
              go_loopw [59] (fun vi W => ∃ i : Nat, i ≤ row.length ∧ vi = .int .i64 i ∧ UpRel3 w7 ends row g T v bm (wA.heap.size + 1) wA.heap.size L (A ++ B) N i W) (fun vi _ => row.length - (intOf vi).toNat)
              case atStart => exact ⟨0, by omega, rfl, HR3.out⟩
              case round =>
                obtain ⟨i, hi, rfl, N3, hit3, hmn3, hok3, hsg3, hs3, hbl3⟩ := hrel
                have HIT3 := Lib.hid hit3
                have HMN3 := Lib.hid hmn3
                have HOK3 := Lib.hid hok3
                have HSG3 := Lib.hid hsg3
                have HS3 := Lib.hid hs3
                have HBL3 := Lib.hid hbl3
                clear HR3 hit3 hmn3 hok3 hsg3 hs3 hbl3
                by_cases hin : i < row.length
                · obtain rfl : ar = some ⟨br, or_, none⟩ := by rcases HAR.out with ha | ha; exact ha; omega
                  have c4 := (HBL3.out.cell (p := ⟨br, or_ + i, none⟩) (HCR.out i hin).1).trans (HCR.out i hin).2
                  have hmem := HRIN.out _ (nth_mem hin)
                  have hidx : idxI ends (nth row i) = (ends.idxOf (nth row i) : Int) := by unfold idxI; rw [if_pos hmem]
                  have hil : ends.idxOf (nth row i) < 6 := by have := List.idxOf_lt_length_iff.2 hmem; omega
                  have HSK := Lib.hid (fun (h : UpRel3 w7 ends row g T v bm (wA.heap.size + 1) wA.heap.size L (A ++ B) N i wr) ht => h.skip hin ht)
                  have HAD := Lib.hid (fun (U : Int) (w' : World) => @UpRel3.add w7 ends row g T v bm (wA.heap.size + 1) wA.heap.size L (A ++ B) N N3 i wr w' HIT3.out HOK3.out HSG3.out HS3.out HBL3.out hin hv0 U)
                  have HSL : Hid (0 ≤ giveTo ends row one1 T v i ∧ giveTo ends row one1 T v i ≤ 6 * v) := Lib.hid (giveTo_le hv0 (by omega))
                  have hTT : (T : Int).toNat = T := by omega
                  rw [hTT] at HSK HAD
                  have HSI := Lib.hid (sindex_any w7.heap.size wr _ ends (nth row i) (HEE.out.below HBL3.out (Nat.le_refl _)))
                  rw [hidx] at HSI
                  obtain ⟨y, hy⟩ : ∃ y, nth row i = y := ⟨_, rfl⟩
                  rw [hy] at c4 hil HSI HSK HAD
                  obtain ⟨kx, hkx⟩ : ∃ n, ends.idxOf y = n := ⟨_, rfl⟩
                  rw [hkx] at hil HSI HSK HAD
                  clear hy hkx hmem hidx hTT
                  go_wp2_with fail
                  refine HSI.out.mono ?_
                  rintro e w9 ⟨rfl, hw9⟩
                  rw [hw9]
                  clear hw9
                  have hpw := pow_wrap kx hil
                  have hand := and_pow T kx hT hil
                  obtain ⟨hor, hor64⟩ := or_pow64 T kx hT hil
                  have HU2 : Hid (((T ||| 2 ^ kx : Nat) : Int) < 64) := Lib.hid (by omega)
                  obtain ⟨U, hU⟩ : ∃ U, T ||| 2 ^ kx = U := ⟨_, rfl⟩
                  rw [hU] at hor HAD HU2
                  obtain ⟨q, hq⟩ : ∃ q : Nat, 2 ^ kx = q := ⟨_, rfl⟩
                  rw [hq] at hpw hand hor
                  clear hU hq hor64
                  cases htb : T.testBit kx
                  · rw [htb] at hand
                    have hand' : (bits BinOp.and IntKind.i64 (T : Int) (q : Int) == 0) = true := hand
                    obtain ⟨lk, hlk⟩ : ∃ x, wlook N3 U = x := ⟨_, rfl⟩
                    have hlk2 := wlook_ge HOK3.out U
                    have hlk3 := (wlook_le_sum HOK3.out U).1
                    have HLK : Hid ((alook (walV N3) (U : Int)).getD (.int .i64 0) = .int .i64 lk) := Lib.hid (by rw [alook_walV, hlk])
                    have hws : IntKind.i64.wrap (lk + v) = lk + v := IntWalk.i64_in _ (by
                      have h1 := HS3.out
                      have h2 := HSL.out
                      have h3 := HNV.out
                      have h4 : sumBy (fun _ => 1) N3 = sumBy one1 N3 := rfl
                      omega)
                    have HAS := Lib.hid (aset_walV (U : Int) (lk + v) N3)
                    have HAD2 := Lib.hid (HAD.out U)
                    rw [hlk] at HAD2
                    clear hlk hlk2 hlk3 hand
                    obtain ⟨sv, hsv⟩ : ∃ x, lk + v = x := ⟨_, rfl⟩
                    rw [hsv] at hws HAS HAD2
                    go_wp2_with (first
                      | (at_lookup; refine wpList_lookup_ints rfl (.tmp 71) (.tmp 74) false rfl Try.underlying83 Try.underlying3 (Try.zeroValue3 _) rfl HMN3.out (x := (U : Int)) rfl ?_; rw [HLK.out])
                      | (at_mapUpdate; refine wpList_update_ints rfl (.tmp 71) (.tmp 74) (.tmp 77) rfl Try.underlying83 Try.underlying3 rfl HMN3.out (x := (U : Int)) (v := .int .i64 sv) rfl rfl ?_; intro w8 hm8 hg8 hz8; have HM8 := Lib.hid hm8; have HG8 := Lib.hid hg8; clear hm8 hg8 hz8))
                    rw [HAS.out] at HM8
                    go_roundw
                    case rel => exact ⟨i + 1, by omega, by go_num, HAD2.out w8 (by first | rfl | trivial) HU2.out htb HM8.out HG8.out (by omega) (by omega) (by omega)⟩
                    case measure => simp [intOf]; omega
                  · rw [htb] at hand
                    have hand' : (bits BinOp.and IntKind.i64 (T : Int) (q : Int) == 0) = false := hand
                    clear hand
                    go_wp2
                    go_roundw
                    case rel => exact ⟨i + 1, by omega, by go_num, HSK.out ⟨N3, HIT3.out, HMN3.out, HOK3.out, HSG3.out, HS3.out, HBL3.out⟩ htb⟩
                    case measure => simp [intOf]; omega
                · obtain rfl : i = row.length := by omega
                  go_wp2
                  go_roundw
                  case rel =>
                    refine ⟨A ++ B, N3, HIT3.out, HOKR.out, HMN3.out, HOK3.out, ?_, ?_, HBL3.out⟩
                    · rw [HGG.out]
                      have h1 := HSG3.out
                      have h2 := HSMG.out
                      have h3 := HSG2.out
                      omega
                    · have h1 := HS3.out
                      have h2 := HSM1.out
                      have h3 := HS2.out
                      have h4 := giveTo_le (ends := ends) (row := row) (T := T) hv0 hrl
                      omega
                  case measure => have h1 := HIT3.out.left; have h2 := HLEFT.out; have h3 := HLEN.out; omega
        · obtain rfl : k = rows.length := by omega
          have HSE : Hid (sumBy one1 L = waysS rows []) := Lib.hid (by rw [← HSG.out, sumBy_gW_end])
          have hSB : Hid (0 ≤ sumBy one1 L ∧ sumBy one1 L ≤ 46656) := Lib.hid (by
            have h1 := sum_ge HOK.out
            have h2 := HS1.out
            have h3 := pow6_le hrn
            omega)
          clear HRL HRI
          go_wp2_with (refine wpList_range_ints rfl (.tmp 81) rfl Try.underlying83 rfl HMP.out ?_; intro w9 hit9 hb9 hz9; have HIT9 := Lib.hid hit9; have HB9 := Lib.hid hb9; clear hit9 hb9 hz9)
          have hne : wr.heap.size ≠ bm := by have := HMP.out.lt; omega
          have HR4 : Hid (UpRel4 w7 bm wr.heap.size L (.int .i64 0) w9) := Lib.hid ⟨L, HIT9.out, HOK.out, by omega, by simp, HBL.out.trans (HB9.out.mono HBL.out.size)⟩
          obtain ⟨wA, rfl⟩ : ∃ W, W = wr := ⟨_, rfl⟩
          clear HIT9
          go_simp
          go_loopw [2] (fun vt W => UpRel4 w7 bm wA.heap.size L vt W) (fun _ W => iterLeft W bm wA.heap.size)
          case atStart => exact HR4.out
          case round =>
            obtain ⟨lw, hit, hokw, hle, hvt, hbl2⟩ := hrel
            have HLE := Lib.hid hle
            clear hle
            have HIT := Lib.hid hit
            have HLEFT := Lib.hid hit.left
            have HOKW := Lib.hid hokw
            have HBL2 := Lib.hid hbl2
            obtain ⟨tv, htv⟩ : ∃ x, sumBy one1 L - sumBy one1 lw = x := ⟨_, rfl⟩
            have HTV := Lib.hid htv
            rw [htv] at hvt
            subst hvt
            clear HR4 hit hokw hbl2 htv
            by_cases hlw : lw = []
            · have HFIN : Hid (waysS rows [] = tv) := Lib.hid (by have h1 := HTV.out; have h2 := HSE.out; rw [sumBy_zero_of_nil hlw] at h1; omega)
              have HNIL : Hid (walV lw = []) := Lib.hid (by rw [hlw]; rfl)
              clear hlw
              go_wp2_with (refine wpList_next_done rfl (.tmp 82) rfl rfl HIT.out hne HNIL.out ?_)
              go_ret2
              exact ⟨by rw [HE.out, HR.out, HFIN.out]; rfl, HW7.out.trans (HBL2.out.mono HW7.out.size)⟩
            · have HNN : Hid (lw ≠ []) := Lib.hid hlw
              clear hlw
              go_wp2_with (refine wpList_next_more rfl (.tmp 82) rfl rfl HIT.out hne HNN.out ?_; intro A x v B w3 hlw2 hit3 hg3 hz3 hen; have HIT3 := Lib.hid hit3; have HG3 := Lib.hid hg3; have HLW2 := Lib.hid hlw2; clear hit3 hg3 hz3 hlw2)
              obtain ⟨hokr, hx0, hx1, hv0⟩ := WOk.mid (HLW2.out ▸ HOKW.out)
              have HSM1 : Hid (sumBy one1 lw = sumBy one1 (A ++ B) + v) := Lib.hid (by rw [HLW2.out, sumBy_mid]; simp [one1])
              have HRW : Hid (IntKind.i64.wrap (tv + v) = tv + v) := Lib.hid (IntWalk.i64_in _ (by
                have h1 := HTV.out
                have h2 := HSM1.out
                have h3 := hSB.out
                have h4 := sum_ge hokr
                have h5 := HLE.out
                simp only at hv0
                omega))
              go_roundw
              case rel =>
                refine ⟨A ++ B, HIT3.out, hokr, by have h1 := HSM1.out; have h2 := HLE.out; simp only at hv0; omega, ?_, HBL2.out.grown HG3.out HBL2.out.size (fun j hj => by cases hj; have := HBL.out.size; omega)⟩
                have h1 := HRW.out
                have h2 := HTV.out
                have h3 := HSM1.out
                rw [IntWalk.i64_left] at h1
                rw [h1]
                congr 1
                omega
              case measure => have h1 := HIT3.out.left; have h2 := HLEFT.out; rw [h1, h2, HLW2.out]; simp [walV]
  · have HE : Hid (ue = checkE f) := Lib.hid (by rw [HER.out, if_pos h1])
    have HR : Hid (ur = 0) := Lib.hid (by rw [HRR.out, HE.out, if_neg h1])
    have h1' : (checkE f != 0) = true := by simpa using h1
    clear h1
    go_wp2
    go_ret2
    exact ⟨by rw [HE.out, HR.out]; rfl, HW5.out⟩

end Go.Proofs.Ythekefnocphcdaa

set_option linter.unusedVariables false

set_option linter.unusedSimpArgs false

namespace Go.Proofs.Ythekefnocphcdaa

open Go.RowKit

/-- the answers of bounds on a flow are these -/
def IsAll (f : Flow) (e n : Int) (l : List Int) : Prop :=
  checkE f = 0 ∧ upperE f = 0 ∧ upperR f = e ∧ lowerE f = 0 ∧ lowerR f = n ∧ lowerL f = l ∧ bcheckR f n l = true ∧ bcheckR f (n + 1) l = false

set_option maxHeartbeats 2000000 in
set_option maxRecDepth 100000 in
/-- frankinglaw28.is -/
theorem isall_any (B : Nat) (w : World) (vs vl vx : Value) (f : Flow) (e0 n : Int) (l : List Int) (hf : IsFlow B w vs vl f) (hx : IsInts B w vx l) (hB : B ≤ w.heap.size) (h6 : f.senders ≤ 6 ∨ 12 < f.senders) (hl9 : l.length ≤ 1000) (hn0 : 0 ≤ n) (hn1 : n ≤ 1000) (hall : IsAll f e0 n l) :
    Calls Try.prog 73 #[.agg #[vs, vl], .int .i64 e0, .int .i64 n, vx] w fun e w' => e = .returned (.bool true) ∧ Below w.heap.size w w' := by
  have HF := Lib.hid hf
  have HX0 := Lib.hid hx
  obtain ⟨k1, k2, k3, k4, k5, k6, k7, k8⟩ := hall
  obtain ⟨rfl, ⟨hs1, hs2⟩, hl⟩ := hf
  obtain ⟨b, off, cap, ⟨a, rfl, hcap, hmax, ha⟩, hlen, hc⟩ := hl
  obtain ⟨b1, off1, cap1, ⟨a1, rfl, hcap1, hmax1, ha1⟩, hlen1, hz1, hc1⟩ := hx
  have hw1 : IntKind.i64.wrap (n + 1) = n + 1 := IntWalk.i64_in _ (by omega)
  have HK := Lib.hid (And.intro k1 (And.intro k2 (And.intro k3 (And.intro k4 (And.intro k5 (And.intro k6 (And.intro k7 k8)))))))
  clear hc ha hc1 ha1 hz1 k1 k2 k3 k4 k5 k6 k7 k8
  go_enter Try.func73, Try.ntmps73
  go_wp2_with fail
  have HX1 := Lib.hid (Box.new w #[.int .i64 f.senders, .slice a f.lots.length cap] 24)
  have HW1 : Hid (Below w.heap.size w _) := Lib.hid (box_below (Nat.le_refl _) (.cells #[.int .i64 f.senders, .slice a f.lots.length cap] 24))
  refine (bupper_any B _ _ _ f (HF.out.below HW1.out hB) (by have := HW1.out.size; omega) h6).mono ?_
  rintro e w2 ⟨rfl, hb2⟩
  rw [HK.out.2.1, HK.out.2.2.1]
  have HX2 := Lib.hid (HX1.out.ext hb2)
  have HW2 : Hid (Below w.heap.size w w2) := Lib.hid (HW1.out.trans (hb2.mono HW1.out.size))
  clear hb2 HX1 HW1
  obtain ⟨z2, r2⟩ := HX2.out
  go_wp2_with fail
  refine (blower_any B w2 _ _ f (HF.out.below HW2.out hB) (by have := HW2.out.size; omega)).mono ?_
  rintro e w3 ⟨v3, rfl, ho3, hb3⟩
  rw [HK.out.2.2.2.1, HK.out.2.2.2.2.1]
  rw [HK.out.2.2.2.2.2.1] at ho3
  have HO3 := Lib.hid ho3
  obtain ⟨a3, c3, rfl, _⟩ := ho3.form
  have HX3 := Lib.hid (HX2.out.ext hb3)
  have HW3 : Hid (Below w.heap.size w w3) := Lib.hid (HW2.out.trans (hb3.mono HW2.out.size))
  clear hb3 ho3 z2 r2
  obtain ⟨z3, r3⟩ := HX3.out
  go_wp2_with fail
  refine (bcheck_any B w3 _ _ _ f n l (HF.out.below HW3.out hB) (HX0.out.below HW3.out hB) (by have := HW3.out.size; omega) hl9).mono ?_
  rintro e w4 ⟨rfl, hb4⟩
  rw [HK.out.1, HK.out.2.2.2.2.2.2.1]
  have HX4 := Lib.hid (HX3.out.ext hb4)
  have HW4 : Hid (Below w.heap.size w w4) := Lib.hid (HW3.out.trans (hb4.mono HW3.out.size))
  have HO4 := Lib.hid (HO3.out.below hb4)
  clear hb4 z3 r3 HO3
  obtain ⟨z4, r4⟩ := HX4.out
  go_wp2_with fail
  refine (bcheck_any B w4 _ _ _ f (n + 1) l (HF.out.below HW4.out hB) (HX0.out.below HW4.out hB) (by have := HW4.out.size; omega) hl9).mono ?_
  rintro e w5 ⟨rfl, hb5⟩
  rw [HK.out.1, HK.out.2.2.2.2.2.2.2]
  have HW5 : Hid (Below w.heap.size w w5) := Lib.hid (HW4.out.trans (hb5.mono HW4.out.size))
  have HO5 := Lib.hid (HO4.out.below hb5).isInts
  clear hb5 z4 r4 HO4
  go_wp2_with fail
  refine (same_any (w5.heap.size) w5 _ _ l l HO5.out ((HX0.out.below HW5.out hB).mono (by have := HW5.out.size; omega))).mono ?_
  rintro e w6 ⟨rfl, hd⟩
  have HS : Hid (sameB l l = true) := Lib.hid (by unfold sameB; simp)
  rw [HS.out]
  have HW6 : Hid (Below w.heap.size w w6) := Lib.hid (HW5.out.trans (hd.below _))
  clear hd
  go_wp2
  go_ret
  exact ⟨rfl, HW6.out⟩

def exP : Flow := ⟨3, []⟩

def exQ : Flow := ⟨2, [⟨[0, 1], true, [1, 0]⟩]⟩

def exR : Flow := ⟨3, [⟨[0, 2], false, []⟩]⟩

def exS : Flow := ⟨4, [⟨[0, 1, 2, 3], false, []⟩]⟩

def exT : Flow := ⟨4, [⟨[0, 1], false, []⟩, ⟨[2, 3], false, []⟩]⟩

def exU : Flow := ⟨3, [⟨[0, 1, 2], false, []⟩, ⟨[3, 4, 5], false, []⟩]⟩

def exV : Flow := ⟨13, []⟩

def exW : Flow := ⟨0, [⟨[], false, []⟩]⟩

instance (f : Flow) (e n : Int) (l : List Int) : Decidable (IsAll f e n l) := by unfold IsAll; infer_instance

theorem exP_all : IsAll exP 1 1 [] := by decide +kernel

theorem exQ_all : IsAll exQ 1 1 [] := by decide +kernel

theorem exR_all : IsAll exR 2 2 [0] := by decide +kernel

theorem exS_all : IsAll exS 24 24 [0] := by decide +kernel

theorem exT_all : IsAll exT 4 4 [0, 1] := by decide +kernel

theorem exU_all : IsAll exU 6 6 [1] := by decide +kernel

theorem exV_ans : upperR exV = 0 ∧ upperE exV = 2 := by decide +kernel

theorem exW_ans : lowerR exW = 0 ∧ lowerL exW = [] ∧ lowerE exW = 250 := by decide +kernel

end Go.Proofs.Ythekefnocphcdaa

set_option linter.unusedVariables false

set_option linter.unusedSimpArgs false

namespace Go.Proofs.Ythekefnocphcdaa

open Go.RowKit

theorem litInts {B b cap : Nat} {w : World} {xs : List Int} {v : Value} (hv : v = .slice (some ⟨b, 0, none⟩) xs.length cap) (hc : xs.length ≤ cap) (hm : cap ≤ 1000) (h64 : ∀ x ∈ xs, I64 x) (hb : b < B)
    (hx : Box w b (xs.map (Value.int .i64 ·)).toArray) : IsInts B w v xs := by
  refine ⟨b, 0, cap, ⟨_, hv, hc, by omega, Or.inl rfl⟩, by omega, h64, fun j hj => ⟨hb, ?_⟩⟩
  rw [hx.2]
  simp [nth_eq_getElem hj, hj]

theorem noInts {B : Nat} {w : World} : IsInts B w (.slice none 0 0) [] :=
  ⟨0, 0, 0, ⟨_, rfl, by simp, by omega, Or.inr rfl⟩, by simp, by simp, fun j hj => by simp at hj⟩

theorem noLots {B : Nat} {w : World} : IsLots B w (.slice none 0 0) [] :=
  ⟨0, 0, 0, ⟨_, rfl, by simp, by omega, Or.inr rfl⟩, by simp, fun j hj => by simp at hj⟩

theorem oneLot {B b : Nat} {w : World} {xs ys : List Int} {kn : Bool} {v u : Value} (hx : Box w b #[v, .bool kn, u]) (hb : b < B) (h1 : IsInts B w v xs) (h2 : IsInts B w u ys) : IsLots B w (.slice (some ⟨b, 0, none⟩) 1 1) [⟨xs, kn, ys⟩] := by
  refine ⟨b, 0, 1, ⟨_, rfl, by simp, by omega, Or.inl rfl⟩, by simp, fun j hj => ?_⟩
  obtain rfl : j = 0 := by simp at hj; omega
  exact ⟨_, _, _, ⟨hb, by rw [hx.2]; rfl⟩, ⟨hb, by rw [hx.2]; rfl⟩, ⟨hb, by rw [hx.2]; rfl⟩, h1, rfl, h2⟩

theorem twoLots {B b : Nat} {w : World} {xs ys xs' ys' : List Int} {kn kn' : Bool} {v u v' u' : Value} (hx : Box w b #[v, .bool kn, u, v', .bool kn', u']) (hb : b < B) (h1 : IsInts B w v xs) (h2 : IsInts B w u ys) (h3 : IsInts B w v' xs') (h4 : IsInts B w u' ys') : IsLots B w (.slice (some ⟨b, 0, none⟩) 2 2) [⟨xs, kn, ys⟩, ⟨xs', kn', ys'⟩] := by
  refine ⟨b, 0, 2, ⟨_, rfl, by simp, by omega, Or.inl rfl⟩, by simp, fun j hj => ?_⟩
  have hj2 : j = 0 ∨ j = 1 := by simp at hj; omega
  rcases hj2 with rfl | rfl
  · exact ⟨_, _, _, ⟨hb, by rw [hx.2]; rfl⟩, ⟨hb, by rw [hx.2]; rfl⟩, ⟨hb, by rw [hx.2]; rfl⟩, h1, rfl, h2⟩
  · exact ⟨_, _, _, ⟨hb, by rw [hx.2]; rfl⟩, ⟨hb, by rw [hx.2]; rfl⟩, ⟨hb, by rw [hx.2]; rfl⟩, h3, rfl, h4⟩

theorem litMat1 {B b : Nat} {w : World} {xs : List Int} {v : Value} (hx : Box w b #[v]) (hb : b < B) (h1 : IsInts B w v xs) : IsMat B w (.slice (some ⟨b, 0, none⟩) 1 1) [xs] := by
  refine ⟨b, 0, 1, ⟨_, rfl, by simp, by omega, Or.inl rfl⟩, by simp, fun j hj => ?_⟩
  obtain rfl : j = 0 := by simp at hj; omega
  exact ⟨v, ⟨hb, by rw [hx.2]; rfl⟩, h1⟩

theorem litMat2 {B b : Nat} {w : World} {xs ys : List Int} {v u : Value} (hx : Box w b #[v, u]) (hb : b < B) (h1 : IsInts B w v xs) (h2 : IsInts B w u ys) : IsMat B w (.slice (some ⟨b, 0, none⟩) 2 2) [xs, ys] := by
  refine ⟨b, 0, 2, ⟨_, rfl, by simp, by omega, Or.inl rfl⟩, by simp, fun j hj => ?_⟩
  rcases (show j = 0 ∨ j = 1 by simp at hj; omega) with rfl | rfl
  · exact ⟨v, ⟨hb, by rw [hx.2]; rfl⟩, h1⟩
  · exact ⟨u, ⟨hb, by rw [hx.2]; rfl⟩, h2⟩

end Go.Proofs.Ythekefnocphcdaa

set_option linter.unusedVariables false

set_option linter.unusedSimpArgs false

namespace Go.Proofs.Ythekefnocphcdaa

open Go.RowKit

set_option maxRecDepth 100000 in
/-- frankinglaw28.unknown -/
theorem lawunknown_any (w : World) (v : Value) (hv : ∃ a n c, v = .slice a n c) :
    Calls Try.prog 74 #[v] w fun e w' => e = .returned (.agg #[v, .bool false, .slice none 0 0]) ∧ Below w.heap.size w w' := by
  obtain ⟨a, n, c, rfl⟩ := hv
  go_enter Try.func74, Try.ntmps74
  go_wp2
  have hX := Box.new w #[.slice a n c, .bool false, .slice none 0 0] 39
  have n0 := hX.2 0
  have n1 := hX.2 1
  have n2 := hX.2 2
  simp at n0 n1 n2
  exact bodyPost_ret (v := .agg #[.slice a n c, .bool false, .slice none 0 0]) (by simp [results, Try.results74, go_sem, n0, n1, n2]) rfl ⟨rfl, box_below' w _⟩

set_option maxHeartbeats 4000000 in
set_option maxRecDepth 100000 in
/-- sane -/
theorem sane28_any (w : World) : Calls Try.prog 36 #[] w fun e w' => e = .returned (.bool true) ∧ Below w.heap.size w w' := by
  go_enter Try.func36, Try.ntmps36
  go_wp2_with fail
  refine (bupper_any w.heap.size w _ _ exV ⟨rfl, by simp [exV, I64], noLots⟩ (Nat.le_refl _) (by right; decide)).mono ?_
  rintro e w1 ⟨rfl, hb1⟩
  rw [exV_ans.1, exV_ans.2]
  have HB1 := Lib.hid hb1
  clear hb1
  have HL0 : Hid (IsLots (w1.heap.size + 1) (w1.alloc (.cells #[.slice none 0 0, .bool false, .slice none 0 0] 39)) (.slice (some ⟨w1.heap.size, 0, none⟩) 1 1) [⟨[], false, []⟩]) := Lib.hid (oneLot (Box.new w1 _ _) (by omega) noInts noInts)
  have HT0 : Hid (Below w.heap.size w (w1.alloc (.cells #[.slice none 0 0, .bool false, .slice none 0 0] 39))) := Lib.hid (HB1.out.alloc HB1.out.size _)
  go_wp2_with fail
  refine (blower_any (w1.heap.size + 1) _ _ _ exW ⟨rfl, by simp [exW, I64], HL0.out⟩ (by simp)).mono ?_
  rintro e w2 ⟨v2, rfl, ho2, hb2⟩
  rw [exW_ans.1, exW_ans.2.2]
  obtain ⟨a2, n2, c2, rfl⟩ := ho2.form'
  have HB2 : Hid (Below w.heap.size w w2) := Lib.hid (HT0.out.trans (hb2.mono HT0.out.size))
  clear hb2 ho2 HL0 HT0
  have HT3 : Hid (Below w.heap.size w w2) := Lib.hid (HB2.out)
  have HQ3 : Hid (Below w2.heap.size w2 w2) := Lib.hid (Below.refl w2.heap.size w2)
  have HF3 : Hid (IsFlow (w2.heap.size) w2 (.int .i64 3) (.slice none 0 0) exP) := Lib.hid ⟨rfl, by simp [exP, I64], noLots⟩
  have HL3 : Hid (IsInts (w2.heap.size) w2 (.slice none 0 0) []) := Lib.hid (noInts)
  go_wp2_with fail
  refine (isall_any (w2.heap.size) _ _ _ _ exP 1 1 [] HF3.out HL3.out (by simp) (by left; decide) (by simp) (by omega) (by omega) exP_all).mono ?_
  rintro e w3 ⟨rfl, hb3⟩
  have HB3 : Hid (Below w.heap.size w w3) := Lib.hid (HT3.out.trans (hb3.mono HT3.out.size))
  clear hb3 HT3 HQ3
  have HT4 : Hid (Below w.heap.size w (((w3.alloc (.cells #[.int .i64 0, .int .i64 1] 3)).alloc (.cells #[.int .i64 1, .int .i64 0] 3)).alloc (.cells #[.slice (some ⟨w3.heap.size, 0, none⟩) 2 2, .bool true, .slice (some ⟨w3.heap.size + 1, 0, none⟩) 2 2] 39))) := Lib.hid ((((HB3.out.alloc (by have := HB3.out.size; simp; omega) _).alloc (by have := HB3.out.size; simp; omega) _).alloc (by have := HB3.out.size; simp; omega) _))
  have HQ4 : Hid (Below w3.heap.size w3 (((w3.alloc (.cells #[.int .i64 0, .int .i64 1] 3)).alloc (.cells #[.int .i64 1, .int .i64 0] 3)).alloc (.cells #[.slice (some ⟨w3.heap.size, 0, none⟩) 2 2, .bool true, .slice (some ⟨w3.heap.size + 1, 0, none⟩) 2 2] 39))) := Lib.hid ((((Below.refl w3.heap.size w3).alloc (by simp; try omega) _).alloc (by simp; try omega) _).alloc (by simp; try omega) _)
  have HF4 : Hid (IsFlow (w3.heap.size + 1 + 1 + 1) (((w3.alloc (.cells #[.int .i64 0, .int .i64 1] 3)).alloc (.cells #[.int .i64 1, .int .i64 0] 3)).alloc (.cells #[.slice (some ⟨w3.heap.size, 0, none⟩) 2 2, .bool true, .slice (some ⟨w3.heap.size + 1, 0, none⟩) 2 2] 39)) (.int .i64 2) (.slice (some ⟨w3.heap.size + 1 + 1, 0, none⟩) 1 1) exQ) := Lib.hid ⟨rfl, by simp [exQ, I64], oneLot (by have h := Box.new ((w3.alloc (.cells #[.int .i64 0, .int .i64 1] 3)).alloc (.cells #[.int .i64 1, .int .i64 0] 3)) #[.slice (some ⟨w3.heap.size, 0, none⟩) 2 2, .bool true, .slice (some ⟨w3.heap.size + 1, 0, none⟩) 2 2] 39; simpa using h) (by omega) (litInts rfl (by decide) (by omega) (by simp [I64]) (by omega) (((Box.new w3 #[.int .i64 0, .int .i64 1] 3).alloc _).alloc _)) (litInts (b := w3.heap.size + 1) rfl (by decide) (by omega) (by simp [I64]) (by omega) (by have h := (Box.new (w3.alloc (.cells #[.int .i64 0, .int .i64 1] 3)) #[.int .i64 1, .int .i64 0] 3).alloc (.cells #[.slice (some ⟨w3.heap.size, 0, none⟩) 2 2, .bool true, .slice (some ⟨w3.heap.size + 1, 0, none⟩) 2 2] 39); simpa using h))⟩
  have HL4 : Hid (IsInts (w3.heap.size + 1 + 1 + 1) (((w3.alloc (.cells #[.int .i64 0, .int .i64 1] 3)).alloc (.cells #[.int .i64 1, .int .i64 0] 3)).alloc (.cells #[.slice (some ⟨w3.heap.size, 0, none⟩) 2 2, .bool true, .slice (some ⟨w3.heap.size + 1, 0, none⟩) 2 2] 39)) (.slice none 0 0) []) := Lib.hid (noInts)
  go_wp2_with fail
  refine (isall_any (w3.heap.size + 1 + 1 + 1) _ _ _ _ exQ 1 1 [] HF4.out HL4.out (by simp) (by left; decide) (by simp) (by omega) (by omega) exQ_all).mono ?_
  rintro e w4 ⟨rfl, hb4⟩
  have HB4 : Hid (Below w.heap.size w w4) := Lib.hid (HT4.out.trans (hb4.mono HT4.out.size))
  clear hb4 HT4 HQ4
  have HT5 : Hid (Below w.heap.size w (w4.alloc (.cells #[.int .i64 0, .int .i64 2] 3))) := Lib.hid (HB4.out.alloc HB4.out.size _)
  have HV5 : Hid (IsInts (w4.heap.size + 1) (w4.alloc (.cells #[.int .i64 0, .int .i64 2] 3)) (.slice (some ⟨w4.heap.size, 0, none⟩) 2 2) [0, 2]) := Lib.hid (litInts rfl (by decide) (by omega) (by simp [I64]) (by omega) (Box.new w4 #[.int .i64 0, .int .i64 2] 3))
  go_wp2_with fail
  refine (lawunknown_any _ _ ⟨_, _, _, rfl⟩).mono ?_
  rintro e w5 ⟨rfl, hb5⟩
  have HB5 : Hid (Below w.heap.size w w5) := Lib.hid (HT5.out.trans (hb5.mono HT5.out.size))
  have HU5 : Hid (IsInts w5.heap.size w5 (.slice (some ⟨w4.heap.size, 0, none⟩) 2 2) [0, 2]) := Lib.hid ((HV5.out.below hb5 (by simp)).mono (by have := hb5.size; simpa using this))
  have HI5 : Hid (Below (w4.heap.size + 1) (w4.alloc (.cells #[.int .i64 0, .int .i64 2] 3)) w5) := Lib.hid (by simpa using hb5)
  clear hb5 HT5
  have HT6 : Hid (Below w.heap.size w ((w5.alloc (.cells #[.slice (some ⟨w4.heap.size, 0, none⟩) 2 2, .bool false, .slice none 0 0] 39)).alloc (.cells #[.int .i64 0] 3))) := Lib.hid (((HB5.out.alloc (by have := HB5.out.size; simp; omega) _).alloc (by have := HB5.out.size; simp; omega) _))
  have HQ6 : Hid (Below w5.heap.size w5 ((w5.alloc (.cells #[.slice (some ⟨w4.heap.size, 0, none⟩) 2 2, .bool false, .slice none 0 0] 39)).alloc (.cells #[.int .i64 0] 3))) := Lib.hid (((Below.refl w5.heap.size w5).alloc (by simp; try omega) _).alloc (by simp; try omega) _)
  have HF6 : Hid (IsFlow (w5.heap.size + 1 + 1) ((w5.alloc (.cells #[.slice (some ⟨w4.heap.size, 0, none⟩) 2 2, .bool false, .slice none 0 0] 39)).alloc (.cells #[.int .i64 0] 3)) (.int .i64 3) (.slice (some ⟨w5.heap.size, 0, none⟩) 1 1) exR) := Lib.hid ⟨rfl, by simp [exR, I64], oneLot ((Box.new w5 #[.slice (some ⟨w4.heap.size, 0, none⟩) 2 2, .bool false, .slice none 0 0] 39).alloc _) (by omega) ((HU5.out.below HQ6.out (Nat.le_refl _)).mono (by omega)) noInts⟩
  have HL6 : Hid (IsInts (w5.heap.size + 1 + 1) ((w5.alloc (.cells #[.slice (some ⟨w4.heap.size, 0, none⟩) 2 2, .bool false, .slice none 0 0] 39)).alloc (.cells #[.int .i64 0] 3)) (.slice (some ⟨w5.heap.size + 1, 0, none⟩) 1 1) [0]) := Lib.hid (litInts (b := w5.heap.size + 1) (cap := 1) rfl (by decide) (by omega) (by simp [I64]) (by omega) (by have h := Box.new (w5.alloc (.cells #[.slice (some ⟨w4.heap.size, 0, none⟩) 2 2, .bool false, .slice none 0 0] 39)) #[.int .i64 0] 3; simpa using h))
  go_wp2_with fail
  refine (isall_any (w5.heap.size + 1 + 1) _ _ _ _ exR 2 2 [0] HF6.out HL6.out (by simp) (by left; decide) (by simp) (by omega) (by omega) exR_all).mono ?_
  rintro e w6 ⟨rfl, hb6⟩
  have HB6 : Hid (Below w.heap.size w w6) := Lib.hid (HT6.out.trans (hb6.mono HT6.out.size))
  clear hb6 HT6 HQ6
  have HT7 : Hid (Below w.heap.size w (w6.alloc (.cells #[.int .i64 0, .int .i64 1, .int .i64 2, .int .i64 3] 3))) := Lib.hid (HB6.out.alloc HB6.out.size _)
  have HV7 : Hid (IsInts (w6.heap.size + 1) (w6.alloc (.cells #[.int .i64 0, .int .i64 1, .int .i64 2, .int .i64 3] 3)) (.slice (some ⟨w6.heap.size, 0, none⟩) 4 4) [0, 1, 2, 3]) := Lib.hid (litInts rfl (by decide) (by omega) (by simp [I64]) (by omega) (Box.new w6 #[.int .i64 0, .int .i64 1, .int .i64 2, .int .i64 3] 3))
  go_wp2_with fail
  refine (lawunknown_any _ _ ⟨_, _, _, rfl⟩).mono ?_
  rintro e w7 ⟨rfl, hb7⟩
  have HB7 : Hid (Below w.heap.size w w7) := Lib.hid (HT7.out.trans (hb7.mono HT7.out.size))
  have HU7 : Hid (IsInts w7.heap.size w7 (.slice (some ⟨w6.heap.size, 0, none⟩) 4 4) [0, 1, 2, 3]) := Lib.hid ((HV7.out.below hb7 (by simp)).mono (by have := hb7.size; simpa using this))
  have HI7 : Hid (Below (w6.heap.size + 1) (w6.alloc (.cells #[.int .i64 0, .int .i64 1, .int .i64 2, .int .i64 3] 3)) w7) := Lib.hid (by simpa using hb7)
  clear hb7 HT7
  have HT8 : Hid (Below w.heap.size w ((w7.alloc (.cells #[.slice (some ⟨w6.heap.size, 0, none⟩) 4 4, .bool false, .slice none 0 0] 39)).alloc (.cells #[.int .i64 0] 3))) := Lib.hid (((HB7.out.alloc (by have := HB7.out.size; simp; omega) _).alloc (by have := HB7.out.size; simp; omega) _))
  have HQ8 : Hid (Below w7.heap.size w7 ((w7.alloc (.cells #[.slice (some ⟨w6.heap.size, 0, none⟩) 4 4, .bool false, .slice none 0 0] 39)).alloc (.cells #[.int .i64 0] 3))) := Lib.hid (((Below.refl w7.heap.size w7).alloc (by simp; try omega) _).alloc (by simp; try omega) _)
  have HF8 : Hid (IsFlow (w7.heap.size + 1 + 1) ((w7.alloc (.cells #[.slice (some ⟨w6.heap.size, 0, none⟩) 4 4, .bool false, .slice none 0 0] 39)).alloc (.cells #[.int .i64 0] 3)) (.int .i64 4) (.slice (some ⟨w7.heap.size, 0, none⟩) 1 1) exS) := Lib.hid ⟨rfl, by simp [exS, I64], oneLot ((Box.new w7 #[.slice (some ⟨w6.heap.size, 0, none⟩) 4 4, .bool false, .slice none 0 0] 39).alloc _) (by omega) ((HU7.out.below HQ8.out (Nat.le_refl _)).mono (by omega)) noInts⟩
  have HL8 : Hid (IsInts (w7.heap.size + 1 + 1) ((w7.alloc (.cells #[.slice (some ⟨w6.heap.size, 0, none⟩) 4 4, .bool false, .slice none 0 0] 39)).alloc (.cells #[.int .i64 0] 3)) (.slice (some ⟨w7.heap.size + 1, 0, none⟩) 1 1) [0]) := Lib.hid (litInts (b := w7.heap.size + 1) (cap := 1) rfl (by decide) (by omega) (by simp [I64]) (by omega) (by have h := Box.new (w7.alloc (.cells #[.slice (some ⟨w6.heap.size, 0, none⟩) 4 4, .bool false, .slice none 0 0] 39)) #[.int .i64 0] 3; simpa using h))
  go_wp2_with fail
  refine (isall_any (w7.heap.size + 1 + 1) _ _ _ _ exS 24 24 [0] HF8.out HL8.out (by simp) (by left; decide) (by simp) (by omega) (by omega) exS_all).mono ?_
  rintro e w8 ⟨rfl, hb8⟩
  have HB8 : Hid (Below w.heap.size w w8) := Lib.hid (HT8.out.trans (hb8.mono HT8.out.size))
  clear hb8 HT8 HQ8
  have HT9 : Hid (Below w.heap.size w (w8.alloc (.cells #[.int .i64 0, .int .i64 1] 3))) := Lib.hid (HB8.out.alloc HB8.out.size _)
  have HV9 : Hid (IsInts (w8.heap.size + 1) (w8.alloc (.cells #[.int .i64 0, .int .i64 1] 3)) (.slice (some ⟨w8.heap.size, 0, none⟩) 2 2) [0, 1]) := Lib.hid (litInts rfl (by decide) (by omega) (by simp [I64]) (by omega) (Box.new w8 #[.int .i64 0, .int .i64 1] 3))
  go_wp2_with fail
  refine (lawunknown_any _ _ ⟨_, _, _, rfl⟩).mono ?_
  rintro e w9 ⟨rfl, hb9⟩
  have HB9 : Hid (Below w.heap.size w w9) := Lib.hid (HT9.out.trans (hb9.mono HT9.out.size))
  have HU9 : Hid (IsInts w9.heap.size w9 (.slice (some ⟨w8.heap.size, 0, none⟩) 2 2) [0, 1]) := Lib.hid ((HV9.out.below hb9 (by simp)).mono (by have := hb9.size; simpa using this))
  have HI9 : Hid (Below (w8.heap.size + 1) (w8.alloc (.cells #[.int .i64 0, .int .i64 1] 3)) w9) := Lib.hid (by simpa using hb9)
  clear hb9 HT9
  have HT10 : Hid (Below w.heap.size w (w9.alloc (.cells #[.int .i64 2, .int .i64 3] 3))) := Lib.hid (HB9.out.alloc HB9.out.size _)
  have HV10 : Hid (IsInts (w9.heap.size + 1) (w9.alloc (.cells #[.int .i64 2, .int .i64 3] 3)) (.slice (some ⟨w9.heap.size, 0, none⟩) 2 2) [2, 3]) := Lib.hid (litInts rfl (by decide) (by omega) (by simp [I64]) (by omega) (Box.new w9 #[.int .i64 2, .int .i64 3] 3))
  go_wp2_with fail
  refine (lawunknown_any _ _ ⟨_, _, _, rfl⟩).mono ?_
  rintro e w10 ⟨rfl, hb10⟩
  have HB10 : Hid (Below w.heap.size w w10) := Lib.hid (HT10.out.trans (hb10.mono HT10.out.size))
  have HU10 : Hid (IsInts w10.heap.size w10 (.slice (some ⟨w9.heap.size, 0, none⟩) 2 2) [2, 3]) := Lib.hid ((HV10.out.below hb10 (by simp)).mono (by have := hb10.size; simpa using this))
  have HI10 : Hid (Below (w9.heap.size + 1) (w9.alloc (.cells #[.int .i64 2, .int .i64 3] 3)) w10) := Lib.hid (by simpa using hb10)
  clear hb10 HT10
  have HU9b : Hid (IsInts w10.heap.size w10 (.slice (some ⟨w8.heap.size, 0, none⟩) 2 2) [0, 1]) := Lib.hid (((HU9.out.below (box_below' w9 (.cells #[.int .i64 2, .int .i64 3] 3)) (Nat.le_refl _)).below HI10.out (by omega)).mono (by have := HI10.out.size; simp at this; omega))
  have HT11 : Hid (Below w.heap.size w ((w10.alloc (.cells #[.slice (some ⟨w8.heap.size, 0, none⟩) 2 2, .bool false, .slice none 0 0, .slice (some ⟨w9.heap.size, 0, none⟩) 2 2, .bool false, .slice none 0 0] 39)).alloc (.cells #[.int .i64 0, .int .i64 1] 3))) := Lib.hid (((HB10.out.alloc (by have := HB10.out.size; simp; omega) _).alloc (by have := HB10.out.size; simp; omega) _))
  have HQ11 : Hid (Below w10.heap.size w10 ((w10.alloc (.cells #[.slice (some ⟨w8.heap.size, 0, none⟩) 2 2, .bool false, .slice none 0 0, .slice (some ⟨w9.heap.size, 0, none⟩) 2 2, .bool false, .slice none 0 0] 39)).alloc (.cells #[.int .i64 0, .int .i64 1] 3))) := Lib.hid (((Below.refl w10.heap.size w10).alloc (by simp; try omega) _).alloc (by simp; try omega) _)
  have HF11 : Hid (IsFlow (w10.heap.size + 1 + 1) ((w10.alloc (.cells #[.slice (some ⟨w8.heap.size, 0, none⟩) 2 2, .bool false, .slice none 0 0, .slice (some ⟨w9.heap.size, 0, none⟩) 2 2, .bool false, .slice none 0 0] 39)).alloc (.cells #[.int .i64 0, .int .i64 1] 3)) (.int .i64 4) (.slice (some ⟨w10.heap.size, 0, none⟩) 2 2) exT) := Lib.hid ⟨rfl, by simp [exT, I64], twoLots ((Box.new w10 #[.slice (some ⟨w8.heap.size, 0, none⟩) 2 2, .bool false, .slice none 0 0, .slice (some ⟨w9.heap.size, 0, none⟩) 2 2, .bool false, .slice none 0 0] 39).alloc _) (by omega) ((HU9b.out.below HQ11.out (Nat.le_refl _)).mono (by omega)) noInts ((HU10.out.below HQ11.out (Nat.le_refl _)).mono (by omega)) noInts⟩
  have HL11 : Hid (IsInts (w10.heap.size + 1 + 1) ((w10.alloc (.cells #[.slice (some ⟨w8.heap.size, 0, none⟩) 2 2, .bool false, .slice none 0 0, .slice (some ⟨w9.heap.size, 0, none⟩) 2 2, .bool false, .slice none 0 0] 39)).alloc (.cells #[.int .i64 0, .int .i64 1] 3)) (.slice (some ⟨w10.heap.size + 1, 0, none⟩) 2 2) [0, 1]) := Lib.hid (litInts (b := w10.heap.size + 1) (cap := 2) rfl (by decide) (by omega) (by simp [I64]) (by omega) (by have h := Box.new (w10.alloc (.cells #[.slice (some ⟨w8.heap.size, 0, none⟩) 2 2, .bool false, .slice none 0 0, .slice (some ⟨w9.heap.size, 0, none⟩) 2 2, .bool false, .slice none 0 0] 39)) #[.int .i64 0, .int .i64 1] 3; simpa using h))
  go_wp2_with fail
  refine (isall_any (w10.heap.size + 1 + 1) _ _ _ _ exT 4 4 [0, 1] HF11.out HL11.out (by simp) (by left; decide) (by simp) (by omega) (by omega) exT_all).mono ?_
  rintro e w11 ⟨rfl, hb11⟩
  have HB11 : Hid (Below w.heap.size w w11) := Lib.hid (HT11.out.trans (hb11.mono HT11.out.size))
  clear hb11 HT11 HQ11
  have HT12 : Hid (Below w.heap.size w (w11.alloc (.cells #[.int .i64 0, .int .i64 1, .int .i64 2] 3))) := Lib.hid (HB11.out.alloc HB11.out.size _)
  have HV12 : Hid (IsInts (w11.heap.size + 1) (w11.alloc (.cells #[.int .i64 0, .int .i64 1, .int .i64 2] 3)) (.slice (some ⟨w11.heap.size, 0, none⟩) 3 3) [0, 1, 2]) := Lib.hid (litInts rfl (by decide) (by omega) (by simp [I64]) (by omega) (Box.new w11 #[.int .i64 0, .int .i64 1, .int .i64 2] 3))
  go_wp2_with fail
  refine (lawunknown_any _ _ ⟨_, _, _, rfl⟩).mono ?_
  rintro e w12 ⟨rfl, hb12⟩
  have HB12 : Hid (Below w.heap.size w w12) := Lib.hid (HT12.out.trans (hb12.mono HT12.out.size))
  have HU12 : Hid (IsInts w12.heap.size w12 (.slice (some ⟨w11.heap.size, 0, none⟩) 3 3) [0, 1, 2]) := Lib.hid ((HV12.out.below hb12 (by simp)).mono (by have := hb12.size; simpa using this))
  have HI12 : Hid (Below (w11.heap.size + 1) (w11.alloc (.cells #[.int .i64 0, .int .i64 1, .int .i64 2] 3)) w12) := Lib.hid (by simpa using hb12)
  clear hb12 HT12
  have HT13 : Hid (Below w.heap.size w (w12.alloc (.cells #[.int .i64 3, .int .i64 4, .int .i64 5] 3))) := Lib.hid (HB12.out.alloc HB12.out.size _)
  have HV13 : Hid (IsInts (w12.heap.size + 1) (w12.alloc (.cells #[.int .i64 3, .int .i64 4, .int .i64 5] 3)) (.slice (some ⟨w12.heap.size, 0, none⟩) 3 3) [3, 4, 5]) := Lib.hid (litInts rfl (by decide) (by omega) (by simp [I64]) (by omega) (Box.new w12 #[.int .i64 3, .int .i64 4, .int .i64 5] 3))
  go_wp2_with fail
  refine (lawunknown_any _ _ ⟨_, _, _, rfl⟩).mono ?_
  rintro e w13 ⟨rfl, hb13⟩
  have HB13 : Hid (Below w.heap.size w w13) := Lib.hid (HT13.out.trans (hb13.mono HT13.out.size))
  have HU13 : Hid (IsInts w13.heap.size w13 (.slice (some ⟨w12.heap.size, 0, none⟩) 3 3) [3, 4, 5]) := Lib.hid ((HV13.out.below hb13 (by simp)).mono (by have := hb13.size; simpa using this))
  have HI13 : Hid (Below (w12.heap.size + 1) (w12.alloc (.cells #[.int .i64 3, .int .i64 4, .int .i64 5] 3)) w13) := Lib.hid (by simpa using hb13)
  clear hb13 HT13
  have HU12b : Hid (IsInts w13.heap.size w13 (.slice (some ⟨w11.heap.size, 0, none⟩) 3 3) [0, 1, 2]) := Lib.hid (((HU12.out.below (box_below' w12 (.cells #[.int .i64 3, .int .i64 4, .int .i64 5] 3)) (Nat.le_refl _)).below HI13.out (by omega)).mono (by have := HI13.out.size; simp at this; omega))
  have HT14 : Hid (Below w.heap.size w ((w13.alloc (.cells #[.slice (some ⟨w11.heap.size, 0, none⟩) 3 3, .bool false, .slice none 0 0, .slice (some ⟨w12.heap.size, 0, none⟩) 3 3, .bool false, .slice none 0 0] 39)).alloc (.cells #[.int .i64 1] 3))) := Lib.hid (((HB13.out.alloc (by have := HB13.out.size; simp; omega) _).alloc (by have := HB13.out.size; simp; omega) _))
  have HQ14 : Hid (Below w13.heap.size w13 ((w13.alloc (.cells #[.slice (some ⟨w11.heap.size, 0, none⟩) 3 3, .bool false, .slice none 0 0, .slice (some ⟨w12.heap.size, 0, none⟩) 3 3, .bool false, .slice none 0 0] 39)).alloc (.cells #[.int .i64 1] 3))) := Lib.hid (((Below.refl w13.heap.size w13).alloc (by simp; try omega) _).alloc (by simp; try omega) _)
  have HF14 : Hid (IsFlow (w13.heap.size + 1 + 1) ((w13.alloc (.cells #[.slice (some ⟨w11.heap.size, 0, none⟩) 3 3, .bool false, .slice none 0 0, .slice (some ⟨w12.heap.size, 0, none⟩) 3 3, .bool false, .slice none 0 0] 39)).alloc (.cells #[.int .i64 1] 3)) (.int .i64 3) (.slice (some ⟨w13.heap.size, 0, none⟩) 2 2) exU) := Lib.hid ⟨rfl, by simp [exU, I64], twoLots ((Box.new w13 #[.slice (some ⟨w11.heap.size, 0, none⟩) 3 3, .bool false, .slice none 0 0, .slice (some ⟨w12.heap.size, 0, none⟩) 3 3, .bool false, .slice none 0 0] 39).alloc _) (by omega) ((HU12b.out.below HQ14.out (Nat.le_refl _)).mono (by omega)) noInts ((HU13.out.below HQ14.out (Nat.le_refl _)).mono (by omega)) noInts⟩
  have HL14 : Hid (IsInts (w13.heap.size + 1 + 1) ((w13.alloc (.cells #[.slice (some ⟨w11.heap.size, 0, none⟩) 3 3, .bool false, .slice none 0 0, .slice (some ⟨w12.heap.size, 0, none⟩) 3 3, .bool false, .slice none 0 0] 39)).alloc (.cells #[.int .i64 1] 3)) (.slice (some ⟨w13.heap.size + 1, 0, none⟩) 1 1) [1]) := Lib.hid (litInts (b := w13.heap.size + 1) (cap := 1) rfl (by decide) (by omega) (by simp [I64]) (by omega) (by have h := Box.new (w13.alloc (.cells #[.slice (some ⟨w11.heap.size, 0, none⟩) 3 3, .bool false, .slice none 0 0, .slice (some ⟨w12.heap.size, 0, none⟩) 3 3, .bool false, .slice none 0 0] 39)) #[.int .i64 1] 3; simpa using h))
  go_wp2_with fail
  refine (isall_any (w13.heap.size + 1 + 1) _ _ _ _ exU 6 6 [1] HF14.out HL14.out (by simp) (by left; decide) (by simp) (by omega) (by omega) exU_all).mono ?_
  rintro e w14 ⟨rfl, hb14⟩
  have HB14 : Hid (Below w.heap.size w w14) := Lib.hid (HT14.out.trans (hb14.mono HT14.out.size))
  clear hb14 HT14 HQ14
  go_wp2
  go_ret
  exact ⟨rfl, HB14.out⟩

end Go.Proofs.Ythekefnocphcdaa

set_option linter.unusedVariables false

set_option linter.unusedSimpArgs false

namespace Go.Proofs.Ythekefnocphcdaa

/-- the rows on the right hold at least what τ makes of the rows on the left -/
def RowsLe (τ : Int → Int) (S : Int → Prop) : List (List Int) → List (List Int) → Prop
  | [], [] => True
  | r :: rs, r' :: rs' => r.Nodup ∧ (∀ x ∈ r, S x ∧ τ x ∈ r') ∧ RowsLe τ S rs rs'
  | _, _ => False

theorem RowsLe.snoc {τ : Int → Int} {S : Int → Prop} {r r' : List Int} (hr : r.Nodup ∧ ∀ x ∈ r, S x ∧ τ x ∈ r') : ∀ {A A' : List (List Int)}, RowsLe τ S A A' → RowsLe τ S (A ++ [r]) (A' ++ [r'])
  | [], [], _ => ⟨hr.1, hr.2, trivial⟩
  | a :: t, a' :: t', h => ⟨h.1, h.2.1, RowsLe.snoc hr h.2.2⟩
  | [], _ :: _, h => by cases h
  | _ :: _, [], h => by cases h

theorem map_nodup {τ : Int → Int} {S : Int → Prop} (hτ : ∀ x y, S x → S y → τ x = τ y → x = y) : ∀ {r : List Int}, r.Nodup → (∀ x ∈ r, S x) → (r.map τ).Nodup
  | [], _, _ => by simp
  | a :: t, hn, hs => by
    have h := List.nodup_cons.1 hn
    simp only [List.map_cons, List.nodup_cons]
    refine ⟨fun hm => ?_, map_nodup hτ h.2 (fun x hx => hs x (by simp [hx]))⟩
    obtain ⟨y, hy, e⟩ := List.mem_map.1 hm
    exact h.1 ((hτ y a (hs y (by simp [hy])) (hs a (by simp)) e) ▸ hy)

end Go.Proofs.Ythekefnocphcdaa

set_option linter.unusedVariables false

set_option linter.unusedSimpArgs false

namespace Go.Proofs.Ythekefnocphcdaa

theorem pow_six (n : Nat) (h : n ≤ 6) : (1 : Int) ≤ 6 ^ n ∧ (6 : Int) ^ n ≤ 46656 := by
  have hn : n = 0 ∨ n = 1 ∨ n = 2 ∨ n = 3 ∨ n = 4 ∨ n = 5 ∨ n = 6 := by omega
  rcases hn with rfl | rfl | rfl | rfl | rfl | rfl | rfl <;> decide

theorem fac_some {v : Int} {a : Nat} (h1 : 1 ≤ v) (h2 : v ≤ 6 ^ a) : ∀ i : Nat, a + i ≤ 6 → ∃ u, facTo v i = some u ∧ 1 ≤ u ∧ u ≤ 6 ^ (a + i)
  | 0, _ => ⟨v, rfl, h1, h2⟩
  | i + 1, hi => by
    obtain ⟨u, e, b1, b2⟩ := fac_some h1 h2 i (by omega)
    have hp := pow_six (a + i) (by omega)
    have hi' : i = 0 ∨ i = 1 ∨ i = 2 ∨ i = 3 ∨ i = 4 ∨ i = 5 := by omega
    have h6 : (6 : Int) ^ (a + (i + 1)) = 6 ^ (a + i) * 6 := by rw [show a + (i + 1) = (a + i) + 1 by omega, Int.pow_succ]
    refine ⟨u * ((i : Int) + 1), ?_, ?_, ?_⟩
    · simp only [facTo, e]
      rw [if_neg]
      unfold mostI
      rcases hi' with rfl | rfl | rfl | rfl | rfl | rfl <;> simp <;> omega
    · rcases hi' with rfl | rfl | rfl | rfl | rfl | rfl <;> simp <;> omega
    · rw [h6]
      generalize (6 : Int) ^ (a + i) = P at *
      rcases hi' with rfl | rfl | rfl | rfl | rfl | rfl <;> simp <;> omega

def sizeTo (f : Flow) (l : List Int) : Nat → Nat
  | 0 => 0
  | k + 1 => sizeTo f l k + (lotAt f.lots (nth l k).toNat).ins.length

theorem prod_some {f : Flow} {l : List Int} : ∀ k, sizeTo f l k ≤ 6 → ∃ v, prodTo f l k = some v ∧ 1 ≤ v ∧ v ≤ 6 ^ sizeTo f l k
  | 0, _ => ⟨1, rfl, by omega, by simp [sizeTo]⟩
  | k + 1, h => by
    simp only [sizeTo] at h
    obtain ⟨v, e, b1, b2⟩ := prod_some (f := f) (l := l) k (by omega)
    obtain ⟨u, e2, c1, c2⟩ := fac_some b1 b2 (lotAt f.lots (nth l k).toNat).ins.length h
    exact ⟨u, by simp only [prodTo, e]; exact e2, c1, by simpa only [sizeTo] using c2⟩

theorem sizeTo_eq (f : Flow) : ∀ (l : List Int) (k : Nat), k ≤ l.length → sizeTo f l k = ((l.take k).map fun x => (lotAt f.lots x.toNat).ins.length).sum
  | l, 0, _ => by simp [sizeTo]
  | l, k + 1, hk => by
    have hk' : k < l.length := by omega
    simp only [sizeTo]
    rw [sizeTo_eq f l k (by omega), List.take_succ_eq_append_getElem hk', List.map_append, List.sum_append, nth_eq_getElem hk']
    simp

def sizeL (f : Flow) (l : List Int) : Nat := (l.map fun x => (lotAt f.lots x.toNat).ins.length).sum

theorem prodB_ok {f : Flow} {l : List Int} (h : sizeL f l ≤ 6) : prodB f l = true := by
  have h2 : sizeTo f l l.length ≤ 6 := by rw [sizeTo_eq f l _ (Nat.le_refl _), List.take_length]; exact h
  obtain ⟨v, e, _⟩ := prod_some (f := f) (l := l) l.length h2
  unfold prodB
  rw [e]; rfl

theorem sizeL_snoc (f : Flow) (l : List Int) (k : Nat) : sizeL f (l ++ [(k : Int)]) = sizeL f l + (lotAt f.lots k).ins.length := by
  unfold sizeL
  simp

/-- a spot that is no out of a known lot -/
def Orig (f : Flow) (s : Int) : Prop := ∀ j, j < f.lots.length → (lotAt f.lots j).known = true → ¬ (beforeI f j ≤ s ∧ s < beforeI f (j + 1))

theorem spotAt_unborn {f : Flow} {m : Nat} (h : lotsB f m = true) {s : Int} (hs : beforeI f (m - 1) ≤ s) : spotAt f s m = s := by
  refine spotAt_stay (k := 0) (Nat.zero_le _) (fun j _ hj => ?_)
  show hasB (lotAt f.lots j).ins s = false
  cases hh : hasB (lotAt f.lots j).ins s
  · rfl
  · have h1 := ins_lt h hj hh
    have h2 := beforeI_mono (f := f) (show j ≤ m - 1 by omega)
    omega

theorem spotAt_lt {f : Flow} {n : Nat} (h : lotsB f n = true) {s : Int} : ∀ m, m ≤ n → s < beforeI f m → spotAt f s m < beforeI f m
  | 0, _, hs => hs
  | m + 1, hm, hs => by
    have hmono : beforeI f m ≤ beforeI f (m + 1) := beforeI_mono (by omega)
    by_cases hb : s < beforeI f m
    · have ih := spotAt_lt h m (by omega) hb
      simp only [spotAt]
      cases hh : hasB (lotAt f.lots m).ins (spotAt f s m)
      · simp only [Bool.false_eq_true, if_false]; omega
      · simp only [if_true]
        have hi := nth_idx (hasB_iff.1 hh)
        have hf := lotB_facts (lotsB_lot h (show m < n by omega))
        simp only [beforeI]
        have : nth (lotAt f.lots m).perm ((lotAt f.lots m).ins.idxOf (spotAt f s m)) < ((lotAt f.lots m).ins.length : Int) := by
          cases hk : (lotAt f.lots m).known
          · have hp : (lotAt f.lots m).perm = [] := by
              have := lotsB_lot h (show m < n by omega)
              unfold lotB at this
              simp [hk] at this
              exact this.2
            rw [hp]
            have : nth [] ((lotAt f.lots m).ins.idxOf (spotAt f s m)) = 0 := rfl
            rw [this]; omega
          · have hp := hf.2.2 hk
            exact (hp.2.2 _ (nth_mem (by rw [hp.1]; exact hi.1))).2
        omega
    · rw [spotAt_unborn (lotsB_le h hm) (by simp only [Nat.add_sub_cancel]; omega)]
      exact hs

theorem spotAt_ge {f : Flow} {n : Nat} (h : lotsB f n = true) {s : Int} (h0 : 0 ≤ s) (hb : 0 ≤ f.senders) : ∀ m, m ≤ n → 0 ≤ spotAt f s m
  | 0, _ => h0
  | m + 1, hm => by
    have ih := spotAt_ge h h0 hb m (by omega)
    have := beforeI_mono (f := f) (Nat.zero_le m)
    simp only [beforeI] at this
    simp only [spotAt]
    split
    · have := perm_ge h (show m < n by omega) ((lotAt f.lots m).ins.idxOf (spotAt f s m)); omega
    · exact ih

theorem unkTo_neg {f : Flow} {s : Int} {m : Nat} (h : unkTo f s (m + 1) < 0) : unkTo f s m < 0 ∧ (hasB (lotAt f.lots m).ins (spotAt f s m) = true → (lotAt f.lots m).known = true) := by
  simp only [unkTo] at h
  split at h
  · omega
  · refine ⟨by omega, fun hh => ?_⟩
    cases hk : (lotAt f.lots m).known
    · rw [hh, hk] at h; simp at h; omega
    · rfl

/-- two letters are never at one spot -/
theorem spotAt_inj {f : Flow} (h : lotsB f f.lots.length = true) {s s' : Int} (hs : Orig f s) (hs' : Orig f s') : ∀ m, m ≤ f.lots.length → unkTo f s m < 0 → unkTo f s' m < 0 → spotAt f s m = spotAt f s' m → s = s'
  | 0, _, _, _, e => e
  | m + 1, hm, u1, u2, e => by
    obtain ⟨v1, k1⟩ := unkTo_neg u1
    obtain ⟨v2, k2⟩ := unkTo_neg u2
    have ih := spotAt_inj h hs hs' m (by omega) v1 v2
    have hf := lotB_facts (lotsB_lot h (show m < f.lots.length by omega))
    have side : ∀ a b : Int, Orig f b → hasB (lotAt f.lots m).ins (spotAt f a m) = true → (lotAt f.lots m).known = true →
        beforeI f m + nth (lotAt f.lots m).perm ((lotAt f.lots m).ins.idxOf (spotAt f a m)) = spotAt f b m → False := by
      intro a b hb hh hk e
      have hi := nth_idx (hasB_iff.1 hh)
      have hp := hf.2.2 hk
      have hr := hp.2.2 _ (nth_mem (by rw [hp.1]; exact hi.1) : nth (lotAt f.lots m).perm ((lotAt f.lots m).ins.idxOf (spotAt f a m)) ∈ _)
      by_cases hbm : b < beforeI f m
      · have := spotAt_lt h m (by omega) hbm
        omega
      · have hbb : spotAt f b m = b := by
          refine spotAt_unborn (lotsB_le h (by omega)) ?_
          have := beforeI_mono (f := f) (show m - 1 ≤ m by omega)
          omega
        rw [hbb] at e
        refine hb m (by omega) hk ⟨by omega, ?_⟩
        simp only [beforeI]
        omega
    simp only [spotAt] at e
    cases h1 : hasB (lotAt f.lots m).ins (spotAt f s m) <;> cases h2 : hasB (lotAt f.lots m).ins (spotAt f s' m) <;> simp only [h1, h2, if_true, Bool.false_eq_true, if_false] at e
    · exact ih e
    · exact (side s' s hs h2 (k2 h2) e.symm).elim
    · exact (side s s' hs' h1 (k1 h1) e).elim
    · have hk := k1 h1
      have hp := hf.2.2 hk
      have i1 := nth_idx (hasB_iff.1 h1)
      have i2 := nth_idx (hasB_iff.1 h2)
      have := nth_inj hp.2.1 (by rw [hp.1]; exact i1.1) (by rw [hp.1]; exact i2.1) (by omega)
      refine ih ?_
      rw [← i1.2, ← i2.2, this]

theorem before_apart {f : Flow} {j k : Nat} {s : Int} (h1 : beforeI f j ≤ s ∧ s < beforeI f (j + 1)) (h2 : beforeI f k ≤ s ∧ s < beforeI f (k + 1)) : j = k := by
  rcases Nat.lt_trichotomy j k with h | h | h
  · have := beforeI_mono (f := f) (show j + 1 ≤ k by omega); omega
  · exact h
  · have := beforeI_mono (f := f) (show k + 1 ≤ j by omega); omega

theorem src_out {f : Flow} {k : Nat} (hk : (lotAt f.lots k).known = false) {s : Int} (h : beforeI f k ≤ s ∧ s < beforeI f (k + 1)) : Orig f s := by
  intro j _ hj hh
  have := before_apart h hh
  subst this
  rw [hk] at hj; cases hj

theorem src_sender {f : Flow} {s : Int} (h : s < f.senders) : Orig f s := by
  intro j _ _ hh
  have := beforeI_mono (f := f) (Nat.zero_le j)
  simp only [beforeI] at this
  omega

end Go.Proofs.Ythekefnocphcdaa

set_option linter.unusedVariables false

set_option linter.unusedSimpArgs false

namespace Go.Proofs.Ythekefnocphcdaa

theorem lastTo_all {f : Flow} {k : Nat} : ∀ n, lastTo f k n = true → ∀ i : Nat, i < n → unkI f (beforeI f k + i) < 0
  | 0, _, i, hi => by omega
  | n + 1, h, i, hi => by
    simp only [lastTo, Bool.and_eq_true, decide_eq_true_eq] at h
    by_cases e : i = n
    · subst e; exact h.2
    · exact lastTo_all n h.1 i (by omega)

def srcL (f : Flow) : Nat → List Int
  | 0 => []
  | k + 1 => if !(lotAt f.lots k).known && lastB f k then srcL f k ++ (upL (lotAt f.lots k).ins.length).map (fun i => beforeI f k + i) else srcL f k

theorem srcL_len (f : Flow) : ∀ k, (srcL f k).length = sizeL f (lastL f k)
  | 0 => rfl
  | k + 1 => by
    simp only [srcL, lastL]
    split
    · rw [sizeL_snoc, List.length_append, srcL_len f k, List.length_map, upL_len]
    · exact srcL_len f k

theorem srcL_in {f : Flow} (h0 : 0 ≤ f.senders) : ∀ k, ∀ s ∈ srcL f k, 0 ≤ s ∧ s < beforeI f k ∧ Orig f s ∧ unkI f s < 0
  | 0, s, hs => by cases hs
  | k + 1, s, hs => by
    have hmono : beforeI f k ≤ beforeI f (k + 1) := beforeI_mono (by omega)
    simp only [srcL] at hs
    split at hs
    · rename_i hc
      simp only [Bool.and_eq_true, Bool.not_eq_true'] at hc
      rcases List.mem_append.1 hs with hs | hs
      · obtain ⟨a, b, c, d⟩ := srcL_in h0 k s hs
        exact ⟨a, by omega, c, d⟩
      · obtain ⟨i, hi, rfl⟩ := List.mem_map.1 hs
        have hi2 := (upL_mem i _).1 hi
        have hb := beforeI_mono (f := f) (Nat.zero_le k)
        have hr : beforeI f (k + 1) = beforeI f k + (lotAt f.lots k).ins.length := rfl
        simp only [beforeI] at hb
        refine ⟨by omega, by omega, src_out hc.1 ⟨by omega, by omega⟩, ?_⟩
        have := lastTo_all _ hc.2 i.toNat (by omega)
        rw [show ((i.toNat : Nat) : Int) = i by omega] at this
        exact this
    · obtain ⟨a, b, c, d⟩ := srcL_in h0 k s hs
      exact ⟨a, by omega, c, d⟩

theorem srcL_nodup {f : Flow} (h0 : 0 ≤ f.senders) : ∀ k, (srcL f k).Nodup
  | 0 => List.nodup_nil
  | k + 1 => by
    simp only [srcL]
    split
    · rw [List.nodup_append]
      refine ⟨srcL_nodup h0 k, map_nodup (S := fun _ => True) (fun x y _ _ e => by omega) (upL_nodup _) (fun _ _ => trivial), fun a ha b hb e => ?_⟩
      obtain ⟨i, hi, rfl⟩ := List.mem_map.1 hb
      have hi2 := (upL_mem i _).1 hi
      have := (srcL_in h0 k a ha).2.1
      omega
    · exact srcL_nodup h0 k

theorem gone_not {f : Flow} {x : Int} : ∀ k, (∀ j, j < k → hasB (lotAt f.lots j).ins x = false) → goneB f x k = false
  | 0, _ => rfl
  | k + 1, h => by simp only [goneB, gone_not k (fun j hj => h j (by omega)), h k (by omega), Bool.or_false]

theorem last_size {f : Flow} (h : checkE f = 0) : (sizeL f (lastL f f.lots.length) : Int) ≤ f.senders := by
  have hc := checkE_ok h
  have hl := hc.2.2.2.2
  have he := ends_count h
  have hb := beforeI_mono (f := f) (Nat.zero_le f.lots.length)
  simp only [beforeI] at hb
  have key := inj_len (fun s => spotAt f s f.lots.length) (srcL f f.lots.length) (endsL f) (srcL_nodup hc.1 _) (fun a ha b hb e => by
      have h1 := srcL_in hc.1 _ a ha
      have h2 := srcL_in hc.1 _ b hb
      exact spotAt_inj hl h1.2.2.1 h2.2.2.1 _ (Nat.le_refl _) h1.2.2.2 h2.2.2.2 e) (fun a ha => by
    have h1 := srcL_in hc.1 _ a ha
    have h2 := spotAt_lt hl _ (Nat.le_refl _) h1.2.1
    have h3 := spotAt_ge hl h1.1 hc.1 _ (Nat.le_refl _)
    unfold endsL
    rw [endsTo_mem]
    exact ⟨h3, by omega, gone_not _ (fun j hj => spotAt_not hl a _ (Nat.le_refl _) j hj)⟩)
  rw [srcL_len] at key
  omega

theorem perm_onto {l : List Int} (hn : l.Nodup) (hb : ∀ y ∈ l, 0 ≤ y ∧ y < l.length) {i : Int} (h0 : 0 ≤ i) (h1 : i < l.length) : i ∈ l := by
  refine Classical.byContradiction fun h => ?_
  have := inj_len (fun y => y) (i :: l) (upL l.length) (List.nodup_cons.2 ⟨h, hn⟩) (fun _ _ _ _ e => e) (fun y hy => by
    rw [upL_mem]
    rcases List.mem_cons.1 hy with rfl | hy
    · exact ⟨h0, h1⟩
    · exact hb y hy)
  rw [upL_len, List.length_cons] at this
  omega

/-- every spot that still holds a letter is where one of the letters is -/
theorem spots_covered {f : Flow} (h : lotsB f f.lots.length = true) (hs0 : 0 ≤ f.senders) : ∀ m, m ≤ f.lots.length → ∀ y, 0 ≤ y → y < beforeI f m → goneB f y m = false →
    ∃ s, 0 ≤ s ∧ s < beforeI f m ∧ Orig f s ∧ unkTo f s m < 0 ∧ spotAt f s m = y
  | 0, _, y, y0, y1, _ => ⟨y, y0, y1, src_sender y1, by simp [unkTo], rfl⟩
  | m + 1, hm, y, y0, y1, hg => by
    have hmono : beforeI f m ≤ beforeI f (m + 1) := beforeI_mono (by omega)
    have hr : beforeI f (m + 1) = beforeI f m + (lotAt f.lots m).ins.length := rfl
    have hf := lotB_facts (lotsB_lot h (show m < f.lots.length by omega))
    simp only [goneB, Bool.or_eq_false_iff] at hg
    by_cases hym : y < beforeI f m
    · obtain ⟨s, a, b, c, d, e⟩ := spots_covered h hs0 m (by omega) y y0 hym hg.1
      refine ⟨s, a, by omega, c, ?_, ?_⟩
      · simp only [unkTo]
        rw [if_neg (by omega), e, hg.2]
        simp
      · simp only [spotAt]
        rw [e, hg.2]
        simp
    · cases hk : (lotAt f.lots m).known
      · have hun : spotAt f y m = y := spotAt_unborn (lotsB_le h (by omega)) (by have := beforeI_mono (f := f) (show m - 1 ≤ m by omega); omega)
        refine ⟨y, y0, y1, src_out hk ⟨by omega, y1⟩, ?_, ?_⟩
        · have hul : unkTo f y m < 0 := by
            refine Classical.byContradiction fun hn => ?_
            have h2 := unkTo_stay (f := f) (s := y) (k := m) (m := f.lots.length) (by omega) (by omega)
            have h3 := unk_later h (show m < f.lots.length by omega) (s := y) (by omega)
            have h4 := (unkTo_lt f y m).2
            omega
          simp only [unkTo]
          rw [if_neg (by omega), hun, hg.2]
          simp
        · simp only [spotAt]
          rw [hun, hg.2]
          simp
      · have hp := hf.2.2 hk
        have hon := perm_onto hp.2.1 (fun z hz => by rw [hp.1]; exact hp.2.2 z hz) (i := y - beforeI f m) (by omega) (by rw [hp.1]; omega)
        have hidx := nth_idx hon
        obtain ⟨j, hj⟩ : ∃ j, (lotAt f.lots m).perm.idxOf (y - beforeI f m) = j := ⟨_, rfl⟩
        rw [hj] at hidx
        have hjl : j < (lotAt f.lots m).ins.length := by rw [← hp.1]; exact hidx.1
        have hx := hf.2.1 _ (nth_mem hjl)
        obtain ⟨s, a, b, c, d, e⟩ := spots_covered h hs0 m (by omega) _ hx.1 hx.2.1 hx.2.2
        have hhas : hasB (lotAt f.lots m).ins (nth (lotAt f.lots m).ins j) = true := hasB_iff.2 (nth_mem hjl)
        have hi := nth_idx (nth_mem hjl)
        have hij : (lotAt f.lots m).ins.idxOf (nth (lotAt f.lots m).ins j) = j := nth_inj hf.1 hi.1 hjl hi.2
        refine ⟨s, a, by omega, c, ?_, ?_⟩
        · simp only [unkTo]
          rw [if_neg (by omega), hk]
          simp
        · simp only [spotAt]
          rw [e, hhas, hij]
          simp only [if_true]
          omega

theorem before_find {f : Flow} {s : Int} : ∀ k, f.senders ≤ s → s < beforeI f k → ∃ j, j < k ∧ beforeI f j ≤ s ∧ s < beforeI f (j + 1)
  | 0, h0, h1 => by simp only [beforeI] at h1; omega
  | k + 1, h0, h1 => by
    by_cases h : s < beforeI f k
    · obtain ⟨j, a, b, c⟩ := before_find k h0 h
      exact ⟨j, by omega, b, c⟩
    · exact ⟨k, by omega, by omega, h1⟩

theorem comesTo_not {f : Flow} {m k : Nat} : ∀ n, comesTo f m k n = false → ∀ i : Nat, i < n → unkI f (beforeI f k + i) ≠ (m : Int)
  | 0, _, i, hi => by omega
  | n + 1, h, i, hi => by
    simp only [comesTo, Bool.or_eq_false_iff] at h
    by_cases e : i = n
    · subst e; exact fun e => by rw [e] at h; simp at h
    · exact comesTo_not n h.1 i (by omega)

theorem hitTo_not {f : Flow} {m : Nat} : ∀ k, hitTo f m k = false → ∀ j, j < k → (lotAt f.lots j).known = false → comesTo f m j (lotAt f.lots j).ins.length = false
  | 0, _, j, hj, _ => by omega
  | k + 1, h, j, hj, hk => by
    simp only [hitTo, Bool.or_eq_false_iff] at h
    by_cases e : j = k
    · subst e
      have := h.2
      rw [hk] at this
      simpa using this
    · exact hitTo_not k h.1 j (by omega) hk

theorem first_in {f : Flow} (h : lotsB f f.lots.length = true) (hs0 : 0 ≤ f.senders) {k : Nat} (hk : k < f.lots.length) (hkn : (lotAt f.lots k).known = false) (hfi : firstB f k = true) {y : Int} (hy : y ∈ (lotAt f.lots k).ins) :
    ∃ s, 0 ≤ s ∧ s < f.senders ∧ unkI f s = k ∧ spotAt f s k = y := by
  have hx := (lotB_facts (lotsB_lot h hk)).2.1 y hy
  obtain ⟨s, a, b, c, d, e⟩ := spots_covered h hs0 k (by omega) y hx.1 hx.2.1 hx.2.2
  have h1 : unkTo f s (k + 1) = k := by
    simp only [unkTo]
    rw [if_neg (by omega), e, hasB_iff.2 hy, hkn]
    simp
  have h2 : unkI f s = k := by
    unfold unkI
    rw [unkTo_stay (k := k + 1) (by omega) (by omega), h1]
  refine ⟨s, a, Classical.byContradiction fun hn => ?_, h2, e⟩
  obtain ⟨j, hj, j1, j2⟩ := before_find k (by omega) b
  have hjk : (lotAt f.lots j).known = false := by
    cases hh : (lotAt f.lots j).known
    · rfl
    · exact (c j (by omega) hh ⟨j1, j2⟩).elim
  have hhit : hitTo f k k = false := by unfold firstB at hfi; simpa using hfi
  have hc := hitTo_not k hhit j hj hjk
  have hr : beforeI f (j + 1) = beforeI f j + (lotAt f.lots j).ins.length := rfl
  refine comesTo_not _ hc (s - beforeI f j).toNat (by omega) ?_
  rw [show beforeI f j + ((s - beforeI f j).toNat : Int) = s by omega]
  exact h2

theorem filter_step (g : Int → Int) (m : Nat) : ∀ l : List Int, (l.filter fun s => decide (0 ≤ g s) && decide (g s < ((m + 1 : Nat) : Int))).length = (l.filter fun s => decide (0 ≤ g s) && decide (g s < (m : Int))).length + (l.filter fun s => g s == (m : Int)).length
  | [] => rfl
  | a :: t => by
    have ih := filter_step g m t
    simp only [List.filter_cons]
    by_cases h1 : 0 ≤ g a ∧ g a < (m : Int)
    · have e1 : (decide (0 ≤ g a) && decide (g a < ((m + 1 : Nat) : Int))) = true := by simp; omega
      have e2 : (decide (0 ≤ g a) && decide (g a < (m : Int))) = true := by simp; omega
      have e3 : (g a == (m : Int)) = false := by simp; omega
      simp only [e1, e2, e3, if_true, Bool.false_eq_true, if_false, List.length_cons]
      omega
    · by_cases h2 : g a = (m : Int)
      · have e1 : (decide (0 ≤ g a) && decide (g a < ((m + 1 : Nat) : Int))) = true := by simp; omega
        have e2 : (decide (0 ≤ g a) && decide (g a < (m : Int))) = false := by simp; omega
        have e3 : (g a == (m : Int)) = true := by simp [h2]
        simp only [e1, e2, e3, if_true, Bool.false_eq_true, if_false, List.length_cons]
        omega
      · have e1 : (decide (0 ≤ g a) && decide (g a < ((m + 1 : Nat) : Int))) = false := by simp; omega
        have e2 : (decide (0 ≤ g a) && decide (g a < (m : Int))) = false := by simp; omega
        have e3 : (g a == (m : Int)) = false := by simp [h2]
        simp only [e1, e2, e3, Bool.false_eq_true, if_false]
        omega

theorem first_sum {f : Flow} (h : lotsB f f.lots.length = true) (hs0 : 0 ≤ f.senders) : ∀ m, m ≤ f.lots.length → sizeL f (firstL f m) ≤ ((upL f.senders.toNat).filter fun s => decide (0 ≤ unkI f s) && decide (unkI f s < (m : Int))).length
  | 0, _ => by simp [firstL, sizeL]
  | m + 1, hm => by
    have ih := first_sum h hs0 m (by omega)
    rw [filter_step]
    simp only [firstL]
    split
    · rename_i hc
      simp only [Bool.and_eq_true, Bool.not_eq_true'] at hc
      rw [sizeL_snoc]
      have hf := lotB_facts (lotsB_lot h (show m < f.lots.length by omega))
      have key := inj_len (fun y => y) (lotAt f.lots m).ins (((upL f.senders.toNat).filter fun s => unkI f s == (m : Int)).map fun s => spotAt f s m) hf.1 (fun _ _ _ _ e => e) (fun y hy => by
        obtain ⟨s, a, b, c, d⟩ := first_in h hs0 (show m < f.lots.length by omega) hc.1 hc.2 hy
        refine List.mem_map.2 ⟨s, List.mem_filter.2 ⟨(upL_mem s _).2 ⟨a, by omega⟩, by simp [c]⟩, d⟩)
      rw [List.length_map] at key
      omega
    · omega

theorem first_size {f : Flow} (h : checkE f = 0) : (sizeL f (firstL f f.lots.length) : Int) ≤ f.senders := by
  have hc := checkE_ok h
  have h1 := first_sum hc.2.2.2.2 hc.1 _ (Nat.le_refl _)
  have h2 := List.length_filter_le (fun s => decide (0 ≤ unkI f s) && decide (unkI f s < (f.lots.length : Int))) (upL f.senders.toNat)
  rw [upL_len] at h2
  omega

/-- with at most six senders the lower bound is always given -/
theorem lower_ok {f : Flow} (h : checkE f = 0) (h6 : f.senders ≤ 6) : lowerE f = 0 := by
  have h1 := last_size h
  have h2 := first_size h
  unfold lowerE
  rw [if_neg (by simp [h]), if_pos]
  unfold lowerOk
  rw [prodB_ok (by omega), prodB_ok (by omega)]
  rfl

end Go.Proofs.Ythekefnocphcdaa

set_option linter.unusedVariables false

set_option linter.unusedSimpArgs false

namespace Go.Proofs.Ythekefnocphcdaa

open Go.RowKit

/-- done: the set of the operations that have come up -/
def upd (L : Nat → Bool) (i : Nat) : Nat → Bool := fun j => j == i || L j

def allOn (L : Nat → Bool) : List Nat → Prop
  | [] => True
  | d :: r => L d = true ∧ allOn L r

theorem allOn_mem {L : Nat → Bool} : ∀ {l : List Nat}, (∀ d ∈ l, L d = true) → allOn L l
  | [], _ => trivial
  | d :: r, h => ⟨h d (by simp), allOn_mem fun e he => h e (by simp [he])⟩

/-- the operations that must come ahead of an operation -/
def depsOf (o : Oper) : List Nat := (o.after.toList.filter (Region.binds .any)).map (·.on)

/-- all edges point to an earlier operation -/
def backB : Nat → List Oper → Bool
  | _, [] => true
  | k, o :: r => (depsOf o).all (fun d => decide (d < k)) && backB (k + 1) r

theorem backB_at : ∀ {l : List Oper} {k : Nat}, backB k l = true → ∀ {i : Nat} {o : Oper}, l[i]? = some o → ∀ d ∈ depsOf o, d < k + i
  | [], _, _, i, o, ho, _, _ => by simp at ho
  | o' :: r, k, h, 0, o, ho, d, hd => by
    simp only [backB, Bool.and_eq_true, List.all_eq_true, decide_eq_true_eq] at h
    simp at ho
    subst ho
    simpa using h.1 d hd
  | o' :: r, k, h, i + 1, o, ho, d, hd => by
    simp only [backB, Bool.and_eq_true] at h
    have := backB_at h.2 (i := i) (o := o) (by simpa using ho) d hd
    omega

section

variable {P : Program} {ops : Array Oper} {Q : Exit → Act → World → Prop}

def InvStep (P : Program) (ops : Array Oper) (Q : Exit → Act → World → Prop) (I : (Nat → Bool) → Act → World → Prop) (i : Nat) (o : Oper) : Prop :=
  ∀ (L : Nat → Bool) (a : Act) (w : World), L i = false → allOn L (depsOf o) → I L a w →
    ∀ K : Act → World → Prop, Shut (∀ a' w', I (upd L i) a' w' → K a' w') → if Region.wanted o (yielded ops a.tmps) = true then Oper.wp P o a w K Q else K (a.put o.dst undef) w

def InvSteps (P : Program) (ops : Array Oper) (Q : Exit → Act → World → Prop) (I : (Nat → Bool) → Act → World → Prop) : Nat → List Oper → Prop
  | _, [] => True
  | k, o :: r => InvStep P ops Q I k o ∧ InvSteps P ops Q I (k + 1) r

theorem InvSteps.at {I : (Nat → Bool) → Act → World → Prop} : ∀ {l : List Oper} {k : Nat}, InvSteps P ops Q I k l → ∀ {i : Nat} {o : Oper}, l[i]? = some o → InvStep P ops Q I (k + i) o
  | [], _, _, i, o, ho => by simp at ho
  | o' :: r, k, h, 0, o, ho => by
    simp at ho
    subst ho
    exact h.1
  | o' :: r, k, h, i + 1, o, ho => by
    have := InvSteps.at h.2 (i := i) (o := o) (by simpa using ho)
    rw [show k + (i + 1) = k + 1 + i by omega]
    exact this

theorem upd_listed {listed : Array Bool} {i : Nat} (hi : i < listed.size) : (fun j => (listed.setIfInBounds i true).getD j false) = upd (fun j => listed.getD j false) i := by
  funext j
  unfold upd
  by_cases h : j = i
  · subst h
    simp [Array.getD_eq_getD_getElem?, hi]
  · have h' : ¬ i = j := fun e => h e.symm
    simp [Array.getD_eq_getD_getElem?, Array.getElem?_setIfInBounds_ne h', h]

/-- how many are not yet done -/
def leftN (L : Nat → Bool) : Nat → Nat
  | 0 => 0
  | n + 1 => leftN L n + (if L n = true then 0 else 1)

theorem leftN_upd_ge {L : Nat → Bool} {i : Nat} : ∀ n, n ≤ i → leftN (upd L i) n = leftN L n
  | 0, _ => rfl
  | n + 1, h => by
    have hn : (n == i) = false := by simp; omega
    have ih := leftN_upd_ge (L := L) (i := i) n (by omega)
    simp [leftN, ih]
    simp [upd, hn]

theorem leftN_upd {L : Nat → Bool} {i : Nat} (hi : L i = false) : ∀ n, i < n → leftN (upd L i) n + 1 = leftN L n
  | 0, h => by omega
  | n + 1, h => by
    rcases Nat.lt_or_ge i n with h1 | h1
    · have hn : (n == i) = false := by simp; omega
      have ih := leftN_upd hi n h1
      simp [leftN, upd, hn] at *
      omega
    · obtain rfl : i = n := by omega
      simp [leftN, leftN_upd_ge i (Nat.le_refl _), upd, hi]

theorem leftN_zero {L : Nat → Bool} : ∀ n, leftN L n = 0 → ∀ i, i < n → L i = true
  | 0, _, i, h => by omega
  | n + 1, h, i, hi => by
    simp only [leftN] at h
    rcases Nat.lt_or_ge i n with h1 | h1
    · exact leftN_zero n (by omega) i h1
    · obtain rfl : i = n := by omega
      by_cases hh : L i = true
      · exact hh
      · simp [hh] at h

theorem wpAny_inv {l : List Oper} (hb : backB 0 l = true) {I : (Nat → Bool) → Act → World → Prop} (hs : InvSteps P l.toArray Q I 0 l)
    (he : ∀ (L : Nat → Bool) a w, (∀ i, i < l.length → L i = true) → I L a w → Q .normal a w) :
    ∀ (fuel : Nat) (listed : Array Bool) (a : Act) (w : World), listed.size = l.length → leftN (fun j => listed.getD j false) l.length ≤ fuel → I (fun j => listed.getD j false) a w →
      wpAny P .any l.toArray Q fuel listed a w := by
  have hfull : ∀ (listed : Array Bool), listed.size = l.length → Region.ready .any l.toArray listed = [] → ∀ n, n ≤ l.length → ∀ i, i < n → listed.getD i false = true := by
    intro listed hz hr n
    induction n with
    | zero => intro _ i hi; omega
    | succ n ih =>
      intro hn i hi
      rcases Nat.lt_or_ge i n with h1 | h1
      · exact ih (by omega) i h1
      · obtain rfl : i = n := by omega
        by_cases hh : listed.getD i false = true
        · exact hh
        · exfalso
          have hmem : i ∈ Region.ready .any l.toArray listed := by
            unfold Region.ready
            refine List.mem_filter.2 ⟨by simp; omega, ?_⟩
            have e1 : listed.getD i true = false := by
              have : i < listed.size := by omega
              simp [Array.getD_eq_getD_getElem?, this] at hh ⊢
              exact hh
            have hlt : i < l.length := by omega
            have e2 : l.toArray[i]? = some l[i] := by simp
            rw [e1, e2]
            simp only [Bool.not_false, Bool.true_and, Option.map_some, Option.getD_some]
            rw [Array.all_eq_true_iff_forall_mem]
            intro e hme
            by_cases hbd : Region.binds .any e = true
            · have : e.on ∈ depsOf l[i] := List.mem_map.2 ⟨e, List.mem_filter.2 ⟨by simpa using hme, hbd⟩, rfl⟩
              have h2 := backB_at hb (i := i) (o := l[i]) (by simp) _ this
              simp [ih (by omega) e.on (by omega)]
            · simp [hbd]
          rw [hr] at hmem
          cases hmem
  intro fuel
  induction fuel with
  | zero =>
    intro listed a w hz hl hI
    have hall := leftN_zero _ (Nat.le_zero.1 hl)
    refine ⟨?_, he _ a w hall hI⟩
    refine List.eq_nil_iff_forall_not_mem.2 fun i hi => ?_
    unfold Region.ready at hi
    obtain ⟨h1, h2⟩ := List.mem_filter.1 hi
    have hlt : i < l.length := by simpa using h1
    have h3 := hall i hlt
    have : i < listed.size := by omega
    simp [Array.getD_eq_getD_getElem?, this] at h3 h2
    rw [h3] at h2
    exact absurd h2.1 (by simp)
  | succ fuel ih =>
    intro listed a w hz hl hI
    refine ⟨fun hr => he _ a w (hfull listed hz hr l.length (Nat.le_refl _)) hI, fun i hi => ?_⟩
    have hi' := hi
    unfold Region.ready at hi'
    obtain ⟨h1, h2⟩ := List.mem_filter.1 hi'
    have hlt : i < l.length := by simpa using h1
    have hlz : i < listed.size := by omega
    have e2 : l.toArray[i]? = some l[i] := by simp
    rw [e2] at h2
    simp only [Option.map_some, Option.getD_some, Bool.and_eq_true] at h2
    have hL : listed.getD i false = false := by
      have := h2.1
      simp [Array.getD_eq_getD_getElem?, hlz] at this ⊢
      exact this
    have hdeps : allOn (fun j => listed.getD j false) (depsOf l[i]) := allOn_mem fun d hd => by
      obtain ⟨e, he1, rfl⟩ := List.mem_map.1 hd
      obtain ⟨he2, he3⟩ := List.mem_filter.1 he1
      have := (Array.all_eq_true_iff_forall_mem.1 h2.2) e (by simpa using he2)
      simpa [he3] using this
    have hstep := InvSteps.at hs (i := i) (o := l[i]) (by simp)
    rw [Nat.zero_add] at hstep
    refine wpOp_step e2 fun K' hK => ?_
    refine hstep _ a w hL hdeps hI K' ?_
    intro a' w' hI'
    refine hK a' w' (ih _ a' w' (by simp [hz]) ?_ ?_)
    · rw [upd_listed hlz]
      have := leftN_upd (L := fun j => listed.getD j false) hL l.length hlt
      omega
    · rw [upd_listed hlz]; exact hI'

/-- a region whose order is drawn, by an invariant -/
theorem wp_region_inv {id : Nat} {l : List Oper} {a : Act} {w : World} (I : Act → (Nat → Bool) → Act → World → Prop) (hm : P.follows .mixedOrders = true) (hb : backB 0 l = true)
    (h0 : I a (fun _ => false) a w.drew) (hs : InvSteps P l.toArray Q (I a) 0 l) (he : ∀ (L : Nat → Bool) a' w', (∀ i, i < l.length → L i = true) → I a L a' w' → Q .normal a' w') : (Code.region id l.toArray true).wp P Q a w := by
  refine wp_region_any hm ?_
  have hfun : (fun j => (Array.replicate l.toArray.size false).getD j false) = fun _ => false := by
    funext j
    simp [Array.getD_eq_getD_getElem?, Array.getElem?_replicate]
    by_cases h : j < l.length <;> simp [h]
  have hle : ∀ n, leftN (fun _ => false) n ≤ n := by
    intro n
    induction n with
    | zero => simp [leftN]
    | succ n ih => simp [leftN]; exact ih
  refine wpAny_inv hb hs he _ _ _ _ (by simp) ?_ ?_
  · rw [hfun]; simpa using hle l.length
  · rw [hfun]; exact h0

end

end Go.Proofs.Ythekefnocphcdaa

set_option linter.unusedVariables false

set_option linter.unusedSimpArgs false

namespace Go.Proofs.Ythekefnocphcdaa

open Go.RowKit

theorem OwnLots.ltX {C : Nat} {w : World} {v : Value} {ls : List Lot} (h : OwnLots C w v ls) : ∀ k, v.ownBlock = some k → C ≤ k ∧ k < w.heap.size := by
  obtain ⟨vals, h1, _⟩ := h
  exact fun k hk => h1.lt k hk

theorem OwnLots.allocX {C : Nat} {w : World} {v : Value} {ls : List Lot} (h : OwnLots C w v ls) (hC : C ≤ w.heap.size) (o : Obj) : OwnLots C (w.alloc o) v ls := h.below (box_below' w o) hC

theorem OwnLots.setX {C p : Nat} {w : World} {v : Value} {ls : List Lot} (h : OwnLots C w v ls) (hC : C ≤ w.heap.size) (hp : C ≤ p) (hne : v.ownBlock ≠ some p) (i : Nat) (u : Value) : OwnLots C (w.setCell ⟨p, i, none⟩ u) v ls :=
  h.kept (grown_setCell w ⟨p, i, none⟩ u) (fun k hk => by cases hk; exact hp) hC (.inr hne)

/-- what holds behind BoundsMore's region of two appends -/
def MoreCut (w1 : World) (ls : List Lot) (v19 : Value) (v5 : Value) (wx : World) : Prop :=
  ∃ (p n c : Nat) (a : Option Addr), v5 = .pointer (some ⟨p, 0, none⟩) ∧ w1.heap.size ≤ p ∧ CellsN wx p #[v19, .slice a n c] ∧ OwnLots w1.heap.size wx (.slice a n c) ls ∧ Below w1.heap.size w1 wx

/-- the invariant -/
structure AI (w1 : World) (ls : List Lot) (x : Lot) (v18 v19 v21 v22 v24 : Value) (lc : Array Value) (L : Nat → Bool) (x5 x18 x19 x20 x21 x22 x23 x24 x25 x26 x27 : Value) (w : World) : Prop where
  hb : Below w1.heap.size w1 w
  h0 : L 0 = true → x18 = v18
  h1 : L 1 = true → x19 = v19
  h2 : L 2 = true → L 5 = false → OwnLots w1.heap.size w x20 []
  h3 : L 3 = true → x21 = v21
  h4 : L 4 = true → x22 = v22
  h5 : L 5 = true → L 8 = false → OwnLots w1.heap.size w x23 ls
  h6 : L 6 = true → x24 = v24
  h7 : L 7 = true → L 8 = false → ∃ g, x25 = .slice (some ⟨g, 0, none⟩) 1 1 ∧ w1.heap.size ≤ g ∧ CellsN w g lc ∧ x20.ownBlock ≠ some g ∧ x23.ownBlock ≠ some g
  h8 : L 8 = true → OwnLots w1.heap.size w x26 (ls ++ [x])
  h9 : L 9 = true → x27 = .agg #[v19, x26]
  h10 : L 10 = true → L 11 = false → ∃ p, x5 = .pointer (some ⟨p, 0, none⟩) ∧ w1.heap.size ≤ p ∧ CellsN w p #[.int .i64 0, .slice none 0 0] ∧ x20.ownBlock ≠ some p ∧ x23.ownBlock ≠ some p ∧ x26.ownBlock ≠ some p
  h11 : L 11 = true → MoreCut w1 (ls ++ [x]) v19 x5 w
  l20 : ∀ k, x20.ownBlock = some k → k < w.heap.size
  l23 : ∀ k, x23.ownBlock = some k → k < w.heap.size
  l26 : ∀ k, x26.ownBlock = some k → k < w.heap.size
  c8 : L 8 = true → L 5 = true ∧ L 7 = true
  c9 : L 9 = true → L 8 = true
  c11 : L 11 = true → L 9 = true ∧ L 10 = true ∧ L 8 = true ∧ L 6 = true ∧ L 4 = true ∧ L 3 = true ∧ L 2 = true ∧ L 1 = true ∧ L 0 = true

section

variable {w1 : World} {ls : List Lot} {x : Lot} {v18 v19 v21 v22 v24 : Value} {lc : Array Value} {L : Nat → Bool} {x5 x18 x19 x20 x21 x22 x23 x24 x25 x26 x27 : Value} {w : World}

theorem AI.size (h : AI w1 ls x v18 v19 v21 v22 v24 lc L x5 x18 x19 x20 x21 x22 x23 x24 x25 x26 x27 w) : w1.heap.size ≤ w.heap.size := h.hb.size

theorem AI.start (h20 : x20.ownBlock = none) (h23 : x23.ownBlock = none) (h26 : x26.ownBlock = none) : AI w1 ls x v18 v19 v21 v22 v24 lc (fun _ => false) x5 x18 x19 x20 x21 x22 x23 x24 x25 x26 x27 w1.drew :=
  { hb := (Below.refl _ _).drew, h0 := (by intro h; cases h), h1 := (by intro h; cases h), h2 := (by intro h; cases h), h3 := (by intro h; cases h), h4 := (by intro h; cases h), h5 := (by intro h; cases h), h6 := (by intro h; cases h),
    h7 := (by intro h; cases h), h8 := (by intro h; cases h), h9 := (by intro h; cases h), h10 := (by intro h; cases h), h11 := (by intro h; cases h), l20 := (by simp [h20]), l23 := (by simp [h23]), l26 := (by simp [h26]),
    c8 := (by intro h; cases h), c9 := (by intro h; cases h), c11 := (by intro h; cases h) }

variable (h : AI w1 ls x v18 v19 v21 v22 v24 lc L x5 x18 x19 x20 x21 x22 x23 x24 x25 x26 x27 w)
include h

theorem AI.s1 (hi : L 1 = false) : AI w1 ls x v18 v19 v21 v22 v24 lc (upd L 1) x5 x18 v19 x20 x21 x22 x23 x24 x25 x26 x27 w :=
  { hb := h.hb, h0 := h.h0, h1 := (fun _ => rfl), h2 := h.h2, h3 := h.h3, h4 := h.h4, h5 := h.h5, h6 := h.h6, h7 := h.h7, h8 := h.h8, h9 := h.h9, h10 := h.h10, h11 := h.h11, l20 := h.l20, l23 := h.l23, l26 := h.l26, c8 := h.c8, c9 := h.c9,
    c11 := (fun e => by have := (h.c11 e).2.2.2.2.2.2.2.1; rw [hi] at this; cases this) }

theorem AI.s3 (hi : L 3 = false) : AI w1 ls x v18 v19 v21 v22 v24 lc (upd L 3) x5 x18 x19 x20 v21 x22 x23 x24 x25 x26 x27 w :=
  { hb := h.hb, h0 := h.h0, h1 := h.h1, h2 := h.h2, h3 := (fun _ => rfl), h4 := h.h4, h5 := h.h5, h6 := h.h6, h7 := h.h7, h8 := h.h8, h9 := h.h9, h10 := h.h10, h11 := h.h11, l20 := h.l20, l23 := h.l23, l26 := h.l26, c8 := h.c8, c9 := h.c9,
    c11 := (fun e => by have := (h.c11 e).2.2.2.2.2.1; rw [hi] at this; cases this) }

theorem AI.s6 (hi : L 6 = false) : AI w1 ls x v18 v19 v21 v22 v24 lc (upd L 6) x5 x18 x19 x20 x21 x22 x23 v24 x25 x26 x27 w :=
  { hb := h.hb, h0 := h.h0, h1 := h.h1, h2 := h.h2, h3 := h.h3, h4 := h.h4, h5 := h.h5, h6 := (fun _ => rfl), h7 := h.h7, h8 := h.h8, h9 := h.h9, h10 := h.h10, h11 := h.h11, l20 := h.l20, l23 := h.l23, l26 := h.l26, c8 := h.c8, c9 := h.c9,
    c11 := (fun e => by have := (h.c11 e).2.2.2.1; rw [hi] at this; cases this) }

/-- a new block -/
theorem AI.more (hi : L 11 = false) (o : Obj) : AI w1 ls x v18 v19 v21 v22 v24 lc L x5 x18 x19 x20 x21 x22 x23 x24 x25 x26 x27 (w.alloc o) :=
  { hb := h.hb.alloc h.size o, h0 := h.h0, h1 := h.h1, h2 := (fun a b => (h.h2 a b).allocX h.size o), h3 := h.h3, h4 := h.h4, h5 := (fun a b => (h.h5 a b).allocX h.size o), h6 := h.h6,
    h7 := (fun a b => by obtain ⟨g, e1, e2, e3, e4, e5⟩ := h.h7 a b; exact ⟨g, e1, e2, e3.alloc o, e4, e5⟩), h8 := (fun a => (h.h8 a).allocX h.size o), h9 := h.h9,
    h10 := (fun a b => by obtain ⟨g, e1, e2, e3, e4, e5, e6⟩ := h.h10 a b; exact ⟨g, e1, e2, e3.alloc o, e4, e5, e6⟩), h11 := (fun e => by rw [hi] at e; cases e),
    l20 := (fun k hk => by have := h.l20 k hk; simp; omega), l23 := (fun k hk => by have := h.l23 k hk; simp; omega), l26 := (fun k hk => by have := h.l26 k hk; simp; omega), c8 := h.c8, c9 := h.c9, c11 := h.c11 }

theorem AI.no11 {i : Nat} (hi : L i = false) (hm : i = 2 ∨ i = 5 ∨ i = 7 ∨ i = 8 ∨ i = 10) : L 11 = false := by
  cases h11 : L 11 with
  | false => rfl
  | true =>
    obtain ⟨e9, e10, e8, e6, e4, e3, e2, e1, e0⟩ := h.c11 h11
    obtain ⟨e5, e7⟩ := h.c8 e8
    rcases hm with rfl | rfl | rfl | rfl | rfl <;> simp_all

theorem AI.s2 (hi : L 2 = false) : AI w1 ls x v18 v19 v21 v22 v24 lc (upd L 2) x5 x18 x19 (.slice (some ⟨w.heap.size, 0, none⟩) 0 0) x21 x22 x23 x24 x25 x26 x27 (w.alloc (.cells #[] 39)) := by
  have hno := h.no11 hi (by simp)
  have h' := h.more hno (.cells #[] 39)
  exact {
    hb := h'.hb, h0 := h'.h0, h1 := h'.h1, h2 := (fun _ _ => OwnLots.made rfl h.size), h3 := h'.h3, h4 := h'.h4, h5 := h'.h5, h6 := h'.h6,
    h7 := (fun a b => by obtain ⟨g, e1, e2, e3, e4, e5⟩ := h.h7 a b; exact ⟨g, e1, e2, e3.alloc _, (by have := e3.lt; simp [Value.ownBlock]; omega), e5⟩), h8 := h'.h8, h9 := h'.h9,
    h10 := (fun a b => by obtain ⟨g, e1, e2, e3, e4, e5, e6⟩ := h.h10 a b; exact ⟨g, e1, e2, e3.alloc _, (by have := e3.lt; simp [Value.ownBlock]; omega), e5, e6⟩), h11 := h'.h11,
    l20 := (fun k hk => by simp [Value.ownBlock] at hk; simp; omega), l23 := h'.l23, l26 := h'.l26, c8 := h'.c8, c9 := h'.c9, c11 := (fun e => by rw [show upd L 2 11 = L 11 from rfl, hno] at e; cases e) }

theorem AI.s7 (hi : L 7 = false) (t : TypeId) : AI w1 ls x v18 v19 v21 v22 v24 lc (upd L 7) x5 x18 x19 x20 x21 x22 x23 x24 (.slice (some ⟨w.heap.size, 0, none⟩) 1 1) x26 x27 (w.alloc (.cells lc t)) := by
  have hno := h.no11 hi (by simp)
  have h' := h.more hno (.cells lc t)
  exact {
    hb := h'.hb, h0 := h'.h0, h1 := h'.h1, h2 := h'.h2, h3 := h'.h3, h4 := h'.h4, h5 := h'.h5, h6 := h'.h6,
    h7 := (fun _ _ => ⟨w.heap.size, rfl, h.size, CellsN.new w lc t, (fun e => by have := h.l20 _ e; omega), (fun e => by have := h.l23 _ e; omega)⟩), h8 := h'.h8, h9 := h'.h9, h10 := h'.h10, h11 := h'.h11,
    l20 := h'.l20, l23 := h'.l23, l26 := h'.l26, c8 := (fun e => ⟨(h'.c8 e).1, rfl⟩), c9 := h'.c9, c11 := (fun e => by rw [show upd L 7 11 = L 11 from rfl, hno] at e; cases e) }

theorem AI.s5 (hi : L 5 = false) (h2 : L 2 = true) {v' : Value} {w' : World} (ho : OwnLots w1.heap.size w' v' ls) (hg : w.grownBy w' x20.ownBlock) (hat : v'.ownBlock = x20.ownBlock ∨ v'.ownBlock = some w.heap.size) :
    AI w1 ls x v18 v19 v21 v22 v24 lc (upd L 5) x5 x18 x19 x20 x21 x22 v' x24 x25 x26 x27 w' := by
  have hno := h.no11 hi (by simp)
  have hlo := (h.h2 h2 hi).ltX
  have hn8 : L 8 = false := by
    cases e : L 8 with
    | false => rfl
    | true => have := (h.c8 e).1; rw [hi] at this; cases this
  have hn9 : L 9 = false := by
    cases e : L 9 with
    | false => rfl
    | true => have := h.c9 e; rw [hn8] at this; cases this
  exact {
    hb := h.hb.grown hg h.size (fun k hk => (hlo k hk).1), h0 := h.h0, h1 := h.h1, h2 := (fun _ e => by cases e), h3 := h.h3, h4 := h.h4, h5 := (fun _ _ => ho), h6 := h.h6,
    h7 := (fun a b => by
      obtain ⟨g, e1, e2, e3, e4, e5⟩ := h.h7 a b
      refine ⟨g, e1, e2, e3.grown hg (fun e => e4 e.symm), e4, ?_⟩
      rcases hat with e | e
      · rw [e]; exact e4
      · rw [e]; intro e'; have := e3.lt; simp at e'; omega), h8 := (fun e => by rw [show upd L 5 8 = L 8 from rfl, hn8] at e; cases e), h9 := (fun e => by rw [show upd L 5 9 = L 9 from rfl, hn9] at e; cases e),
    h10 := (fun a b => by
      obtain ⟨g, e1, e2, e3, e4, e5, e6⟩ := h.h10 a b
      refine ⟨g, e1, e2, e3.grown hg (fun e => e4 e.symm), e4, ?_, e6⟩
      rcases hat with e | e
      · rw [e]; exact e4
      · rw [e]; intro e'; have := e3.lt; simp at e'; omega), h11 := (fun e => by rw [show upd L 5 11 = L 11 from rfl, hno] at e; cases e),
    l20 := (fun k hk => by have := h.l20 k hk; have := hg.size; omega), l23 := (fun k hk => (ho.ltX k hk).2), l26 := (fun k hk => by have := h.l26 k hk; have := hg.size; omega),
    c8 := (fun e => by rw [show upd L 5 8 = L 8 from rfl, hn8] at e; cases e), c9 := h.c9, c11 := (fun e => by rw [show upd L 5 11 = L 11 from rfl, hno] at e; cases e) }

theorem AI.s8 (hi : L 8 = false) (h5 : L 5 = true) (h7 : L 7 = true) {v' : Value} {w' : World} (ho : OwnLots w1.heap.size w' v' (ls ++ [x])) (hg : w.grownBy w' x23.ownBlock) (hat : v'.ownBlock = x23.ownBlock ∨ v'.ownBlock = some w.heap.size) :
    AI w1 ls x v18 v19 v21 v22 v24 lc (upd L 8) x5 x18 x19 x20 x21 x22 x23 x24 x25 v' x27 w' := by
  have hno := h.no11 hi (by simp)
  have hlo := (h.h5 h5 hi).ltX
  have hn9 : L 9 = false := by
    cases e : L 9 with
    | false => rfl
    | true => have := h.c9 e; rw [hi] at this; cases this
  exact {
    hb := h.hb.grown hg h.size (fun k hk => (hlo k hk).1), h0 := h.h0, h1 := h.h1, h2 := (fun _ e => by rw [show upd L 8 5 = L 5 from rfl, h5] at e; cases e), h3 := h.h3, h4 := h.h4, h5 := (fun _ e => by cases e), h6 := h.h6,
    h7 := (fun _ e => by cases e), h8 := (fun _ => ho), h9 := (fun e => by rw [show upd L 8 9 = L 9 from rfl, hn9] at e; cases e),
    h10 := (fun a b => by
      obtain ⟨g, e1, e2, e3, e4, e5, e6⟩ := h.h10 a b
      refine ⟨g, e1, e2, e3.grown hg (fun e => e5 e.symm), e4, e5, ?_⟩
      rcases hat with e | e
      · rw [e]; exact e5
      · rw [e]; intro e'; have := e3.lt; simp at e'; omega), h11 := (fun e => by rw [show upd L 8 11 = L 11 from rfl, hno] at e; cases e),
    l20 := (fun k hk => by have := h.l20 k hk; have := hg.size; omega), l23 := (fun k hk => by have := h.l23 k hk; have := hg.size; omega), l26 := (fun k hk => (ho.ltX k hk).2),
    c8 := (fun _ => ⟨h5, h7⟩), c9 := (fun _ => rfl), c11 := (fun e => by rw [show upd L 8 11 = L 11 from rfl, hno] at e; cases e) }

end

end Go.Proofs.Ythekefnocphcdaa

set_option linter.unusedVariables false

set_option linter.unusedSimpArgs false

namespace Go.Proofs.Ythekefnocphcdaa

open Go.RowKit Go.MapKept Go.Maps

section

variable {α : Type} [DecidableEq α]

def klook : List (α × Value) → α → Option Value
  | [], _ => none
  | (k, v) :: r, x => if k = x then some v else klook r x

def kset : List (α × Value) → α → Value → List (α × Value)
  | [], x, v => [(x, v)]
  | (k, u) :: r, x, v => if k = x then (k, v) :: r else (k, u) :: kset r x v

theorem klook_none {l : List (α × Value)} {x : α} (h : x ∉ l.map (·.1)) : klook l x = none ∧ ∀ v, kset l x v = l ++ [(x, v)] := by
  induction l with
  | nil => exact ⟨rfl, fun v => rfl⟩
  | cons p r ih =>
    obtain ⟨k, u⟩ := p
    simp only [List.map_cons, List.mem_cons, not_or] at h
    obtain ⟨h1, h2⟩ := ih h.2
    have hk : ¬ k = x := fun e => h.1 e.symm
    exact ⟨by simp only [klook, if_neg hk, h1], fun v => by simp only [kset, if_neg hk, h2 v, List.cons_append]⟩

theorem klook_at {l : List (α × Value)} (hn : (l.map (·.1)).Nodup) {j : Nat} {x : α} {v : Value} (h : l[j]? = some (x, v)) : klook l x = some v ∧ ∀ u, kset l x u = l.modify j (fun p => (p.1, u)) := by
  induction l generalizing j with
  | nil => simp at h
  | cons p r ih =>
    obtain ⟨k, u0⟩ := p
    simp only [List.map_cons, List.nodup_cons] at hn
    cases j with
    | zero =>
      simp only [List.getElem?_cons_zero, Option.some.injEq, Prod.mk.injEq] at h
      obtain ⟨rfl, rfl⟩ := h
      exact ⟨by simp [klook], fun u => by simp [kset, List.modify]⟩
    | succ j =>
      simp only [List.getElem?_cons_succ] at h
      obtain ⟨h1, h2⟩ := ih hn.2 h
      have hk : ¬ k = x := fun e => hn.1 (by rw [e]; exact List.mem_map.2 ⟨(x, v), List.mem_of_getElem? h, rfl⟩)
      exact ⟨by simp only [klook, if_neg hk, h1], fun u => by simp only [kset, if_neg hk, h2 u, List.modify_succ_cons]⟩

end

section

variable {α : Type}

/-- what is asked of the way in which keys are held -/
structure KeyEnc (P : Program) (K : TypeId) (enc : α → Value) : Prop where
  law : Keyed P K
  inj : ∀ {x y}, enc x = enc y → x = y
  key : ∀ x, ∃ l, keyOf P K (enc x) = some l

variable {enc : α → Value}

/-- block r is a map that holds the pairs l -/
def KMap (enc : α → Value) (w : World) (r : Nat) (l : List (α × Value)) : Prop :=
  ∃ es c, w.heap[r]? = some (.map es c) ∧ Stamped es c ∧ es.toList.map (fun e => (e.key, e.val)) = l.map (fun p => (enc p.1, p.2))

variable {P : Program} {w : World} {T K E : TypeId} {r : Nat} {l : List (α × Value)}

theorem KMap.lt (h : KMap enc w r l) : r < w.heap.size := by
  obtain ⟨es, c, h1, _⟩ := h
  exact (Array.getElem?_eq_some_iff.1 h1).1

theorem KMap.below {B : Nat} {w' : World} (h : KMap enc w r l) (hb : Below B w w') (hr : r < B) : KMap enc w' r l := by
  obtain ⟨es, c, h1, h2⟩ := h
  exact ⟨es, c, (hb.block r hr).trans h1, h2⟩

theorem KMap.ext {w' : World} (h : KMap enc w r l) (hb : Below w.heap.size w w') : KMap enc w' r l := h.below hb h.lt

theorem KMap.grown {w' : World} {row : Option Nat} (h : KMap enc w r l) (hg : w.grownBy w' row) (hne : some r ≠ row) : KMap enc w' r l := by
  have hl := h.lt
  obtain ⟨es, c, h1, h2⟩ := h
  exact ⟨es, c, (hg.block r hl hne).trans h1, h2⟩

theorem KMap.alloc (h : KMap enc w r l) (o : Obj) : KMap enc (w.alloc o) r l := h.ext (box_below' w o)

theorem KMap.setCell (h : KMap enc w r l) (a : Addr) (v : Value) (hne : r ≠ a.block) : KMap enc (w.setCell a v) r l := by
  obtain ⟨es, c, h1, h2⟩ := h
  exact ⟨es, c, (Below.heap_setCell w a v r hne).trans h1, h2⟩

theorem KMap.made (w : World) : KMap enc (w.alloc (.map #[] 0)) w.heap.size [] := ⟨#[], 0, heap_alloc_new w _, stamped_empty 0, rfl⟩

theorem KMap.drewN (h : KMap enc w r l) (n : Nat) : KMap enc (w.drewN n) r l := h

theorem KMap.keys (C : KeyEnc P K enc) {es : List MapEntry} (h : es.map (fun e => (e.key, e.val)) = l.map (fun p => (enc p.1, p.2))) : ∀ e ∈ es, ∃ k, keyOf P K e.key = some k := by
  intro e he
  have : (e.key, e.val) ∈ l.map (fun p => (enc p.1, p.2)) := by rw [← h]; exact List.mem_map_of_mem he
  obtain ⟨p, _, hp⟩ := List.mem_map.1 this
  simp only [Prod.mk.injEq] at hp
  rw [← hp.1]
  exact C.key p.1

theorem KMap.keyList {es : List MapEntry} (h : es.map (fun e => (e.key, e.val)) = l.map (fun p => (enc p.1, p.2))) : es.map (·.key) = l.map (fun p => enc p.1) := by
  have := congrArg (List.map Prod.fst) h
  simpa [List.map_map, Function.comp_def] using this

theorem KMap.nodup (C : KeyEnc P K enc) (h : KMap enc w r l) : (l.map (·.1)).Nodup := by
  obtain ⟨es, c, h1, h2, h3⟩ := h
  have hk := h2.2.2
  rw [KMap.keyList h3] at hk
  have h4 : l.Pairwise (fun p q => enc p.1 ≠ enc q.1) := List.pairwise_map.1 hk
  exact List.pairwise_map.2 (h4.imp (fun h e => h (by rw [e])))

theorem run_lookup_k [DecidableEq α] (C : KeyEnc P K enc) (hT : P.underlying T = some (.map K E)) {z : Value} (hz : (zeroValue E).run P w = .ok z w) (h : KMap enc w r l) (x : α) (ok : Bool) :
    (Instr.lookup T (.map (some r)) (enc x) ok).run P w = .ok (if ok then .tuple #[(klook l x).getD z, .bool (klook l x).isSome] else (klook l x).getD z) w := by
  have hn := h.nodup C
  obtain ⟨es, c, h1, h2, h3⟩ := h
  obtain ⟨kl, hkl⟩ := C.key x
  have hck : (Instr.checkKey es.isEmpty 10000 K (enc x)).run P w = .ok () w := C.law.check w es.isEmpty hkl
  have hg : (getObj r).run P w = .ok (.map es c) w := MapKept.run_getObj_map h1
  unfold Instr.lookup
  rcases C.law.find w hkl es.toList (KMap.keys C h3) with ⟨hf, q2⟩ | ⟨j, e, hf, q2, q3⟩
  · have hx : x ∉ l.map (·.1) := by
      intro hm
      obtain ⟨p, hp, rfl⟩ := List.mem_map.1 hm
      have : (enc p.1, p.2) ∈ es.toList.map (fun e => (e.key, e.val)) := by rw [h3]; exact List.mem_map.2 ⟨p, hp, rfl⟩
      obtain ⟨e, he, hee⟩ := List.mem_map.1 this
      simp only [Prod.mk.injEq] at hee
      exact q2 e he hee.1
    simp [run_underlying hT, Result.andThen, hg, hck, hf, hz, (klook_none hx).1]
  · have hj : l[j]? = some (x, e.val) := by
      have h4 := congrArg (fun L => L[j]?) h3
      simp only [List.getElem?_map, q2, Option.map_some] at h4
      cases hl : l[j]? with
      | none => rw [hl] at h4; cases h4
      | some p =>
        rw [hl] at h4
        simp only [Option.map_some, Option.some.injEq, Prod.mk.injEq] at h4
        obtain ⟨p1, p2⟩ := p
        simp only at h4
        have := C.inj (q3.symm.trans h4.1)
        rw [this, h4.2]
    simp [run_underlying hT, Result.andThen, hg, hck, hf, (klook_at hn hj).1]

theorem run_update_k [DecidableEq α] (C : KeyEnc P K enc) (hT : P.underlying T = some (.map K E)) (h : KMap enc w r l) (x : α) (v : Value) :
    ∃ w', (Instr.mapUpdate T (.map (some r)) (enc x) v).run P w = .ok () w' ∧ KMap enc w' r (kset l x v) ∧ w.grownBy w' (some r) ∧ w'.heap.size = w.heap.size := by
  have hn := h.nodup C
  obtain ⟨es, c, h1, h2, h3⟩ := h
  obtain ⟨kl, hkl⟩ := C.key x
  have hck : (Instr.checkKey false 10000 K (enc x)).run P w = .ok () w := C.law.check w false hkl
  have hg : (getObj r).run P w = .ok (.map es c) w := MapKept.run_getObj_map h1
  have keep : ∀ o : Obj, w.grownBy { w with heap := w.heap.setIfInBounds r o } (some r) := fun o =>
    ⟨rfl, rfl, rfl, by simp, fun k hk' hne => by simp only [Array.getElem?_setIfInBounds]; rw [if_neg (fun e => hne (by rw [e]))]⟩
  unfold Instr.mapUpdate
  rcases C.law.find w hkl es.toList (KMap.keys C h3) with ⟨hf, q2⟩ | ⟨j, e, hf, q2, q3⟩
  · have hset := run_setObj_map (P := P) (.map (es.push { key := enc x, val := v, born := c }) (c + 1)) h1
    have hx : x ∉ l.map (·.1) := by
      intro hm
      obtain ⟨p, hp, rfl⟩ := List.mem_map.1 hm
      have : (enc p.1, p.2) ∈ es.toList.map (fun e => (e.key, e.val)) := by rw [h3]; exact List.mem_map.2 ⟨p, hp, rfl⟩
      obtain ⟨e, he, hee⟩ := List.mem_map.1 this
      simp only [Prod.mk.injEq] at hee
      exact q2 e he hee.1
    refine ⟨_, by simp [run_underlying hT, Result.andThen, hg, hck, hf, hset]; rfl, ⟨_, _, (heap_set h1).1, stamped_push h2 q2, ?_⟩, keep _, by simp⟩
    rw [(klook_none hx).2 v]
    simp [h3]
  · have hj : l[j]? = some (x, e.val) := by
      have h4 := congrArg (fun L => L[j]?) h3
      simp only [List.getElem?_map, q2, Option.map_some] at h4
      cases hl : l[j]? with
      | none => rw [hl] at h4; cases h4
      | some p =>
        rw [hl] at h4
        simp only [Option.map_some, Option.some.injEq, Prod.mk.injEq] at h4
        obtain ⟨p1, p2⟩ := p
        simp only at h4
        have := C.inj (q3.symm.trans h4.1)
        rw [this, h4.2]
    have e1 : es[j]? = some e := by simpa using q2
    have hold : ((es[j]?).map (·.key)).getD (enc x) = enc x := by rw [e1]; simp [q3]
    have hstay : (Instr.keyThatStays (enc x) (enc x)).run P w = .ok (enc x) w := C.law.stays w hkl
    have hset := run_setObj_map (P := P) (.map (es.modify j fun e => { e with key := enc x, val := v }) c) h1
    refine ⟨_, by simp [run_underlying hT, Result.andThen, hg, hck, hf, hset, hold, hstay]; rfl, ⟨_, _, (heap_set h1).1, ?_, ?_⟩, keep _, by simp⟩
    · refine stamped_modify h2 j _ (fun _ _ => rfl) (fun e' _ he' => ?_)
      rw [e1] at he'
      cases he'
      exact q3.symm
    · rw [(klook_at hn hj).2 v]
      rw [Array.toList_modify]
      apply List.ext_getElem?
      intro i
      have h5 := congrArg (fun L => L[i]?) h3
      simp only [List.getElem?_map, List.getElem?_modify] at h5 ⊢
      by_cases hij : j = i
      · subst hij
        simp only [if_true, q2, hj, Option.map_some]
        rfl
      · simp only [if_neg hij, Option.map_map]
        simpa using h5

theorem wpList_wantK {ops : Array Oper} {rest : List Oper} {o : Oper} {a : Act} {Q : Exit → Act → World → Prop} (hw : Region.wanted o (yielded ops a.tmps) = true)
    (h : ∀ K : Act → World → Prop, (∀ a w, wpList P ops Q rest a w → K a w) → o.wp P a w K Q) : wpList P ops Q (o :: rest) a w :=
  wpList_step fun K hK => by rw [if_pos hw]; exact h K hK

/-- the operation m[x] -/
theorem wpList_lookup_k [DecidableEq α] {ops : Array Oper} {rest : List Oper} {o : Oper} {a : Act} {Q : Exit → Act → World → Prop} (C : KeyEnc P K enc) (hg : Region.wanted o (yielded ops a.tmps) = true) (m xo : Operand) (ok : Bool) (hop : o.op = Op.lookup T m xo ok)
    (hT : P.underlying T = some (.map K E)) {z : Value} (hz : (zeroValue E).run P w = .ok z w) (hm : a.eval m = .map (some r)) (h : KMap enc w r l) {x : α} (hx : a.eval xo = enc x)
    (hk : wpList P ops Q rest (a.put o.dst (if ok then .tuple #[(klook l x).getD z, .bool (klook l x).isSome] else (klook l x).getD z)) w) : wpList P ops Q (o :: rest) a w := by
  refine wpList_wantK hg fun K' hK' => ?_
  unfold Oper.wp
  simp only [execOp, hop, hm, hx]
  simp [run_lookup_k C hT hz h x ok, Result.andThen]
  exact hK' _ _ hk

/-- the operation m[x] = v -/
theorem wpList_update_k [DecidableEq α] {ops : Array Oper} {rest : List Oper} {o : Oper} {a : Act} {Q : Exit → Act → World → Prop} (C : KeyEnc P K enc) (hg : Region.wanted o (yielded ops a.tmps) = true) (m xo vo : Operand) (hop : o.op = Op.mapUpdate T m xo vo)
    (hT : P.underlying T = some (.map K E)) (hm : a.eval m = .map (some r)) (h : KMap enc w r l) {x : α} {v : Value} (hx : a.eval xo = enc x) (hv : a.eval vo = v)
    (hk : ∀ w', KMap enc w' r (kset l x v) → w.grownBy w' (some r) → w'.heap.size = w.heap.size → wpList P ops Q rest (a.put o.dst undef) w') : wpList P ops Q (o :: rest) a w := by
  refine wpList_wantK hg fun K' hK' => ?_
  obtain ⟨w', hrun, h1, h2, h3⟩ := run_update_k C hT h x v
  unfold Oper.wp
  simp only [execOp, hop, hm, hx, hv]
  simp [hrun, Result.andThen]
  exact hK' _ _ (hk w' h1 h2 h3)

/-- block r goes over the map in block bm, which holds the pairs l; the pairs left are still to come -/
def KIter (enc : α → Value) (w : World) (bm r : Nat) (l left : List (α × Value)) : Prop :=
  ∃ es c seen c0, w.heap[bm]? = some (.map es c) ∧ w.heap[r]? = some (.mapIter (some bm) c seen c0) ∧ Stamped es c ∧ c ≤ c0 ∧ es.toList.map (fun e => (e.key, e.val)) = l.map (fun p => (enc p.1, p.2)) ∧
    (leftOf es seen).toList.map (fun e => (e.key, e.val)) = left.map (fun p => (enc p.1, p.2))

theorem KIter.kept {w' : World} {bm r : Nat} {l left : List (α × Value)} {row : Option Nat} (h : KIter enc w bm r l left) (hg : w.grownBy w' row) (h1 : some bm ≠ row) (h2 : some r ≠ row) : KIter enc w' bm r l left := by
  obtain ⟨es, c, seen, c0, a, b, rest⟩ := h
  exact ⟨es, c, seen, c0, (hg.block bm (Array.getElem?_eq_some_iff.1 a).1 h1).trans a, (hg.block r (Array.getElem?_eq_some_iff.1 b).1 h2).trans b, rest⟩

theorem KIter.ext {w' : World} {bm r : Nat} {l left : List (α × Value)} (h : KIter enc w bm r l left) (hb : Below w.heap.size w w') : KIter enc w' bm r l left :=
  h.kept (row := none) ⟨hb.os, hb.tape, hb.output, hb.size, fun k hk _ => hb.block k hk⟩ (by simp) (by simp)

theorem KIter.alloc {bm r : Nat} {l left : List (α × Value)} (h : KIter enc w bm r l left) (o : Obj) : KIter enc (w.alloc o) bm r l left := h.ext (box_below' w o)

theorem KIter.map {bm r : Nat} {l left : List (α × Value)} (h : KIter enc w bm r l left) : KMap enc w bm l := by
  obtain ⟨es, c, seen, c0, a, b, d, e, f, g⟩ := h
  exact ⟨es, c, a, d, f⟩

theorem KIter.lt {bm r : Nat} {l left : List (α × Value)} (h : KIter enc w bm r l left) : bm < w.heap.size ∧ r < w.heap.size := by
  obtain ⟨es, c, seen, c0, a, b, _⟩ := h
  exact ⟨(Array.getElem?_eq_some_iff.1 a).1, (Array.getElem?_eq_some_iff.1 b).1⟩

end

end Go.Proofs.Ythekefnocphcdaa

set_option linter.unusedVariables false

set_option linter.unusedSimpArgs false

namespace Go.Proofs.Ythekefnocphcdaa

open Go.RowKit Go.MapKept

section

variable {α : Type} {enc : α → Value} {P : Program} {w : World} {ops : Array Oper} {rest : List Oper} {o : Oper} {a : Act} {Q : Exit → Act → World → Prop}

theorem wpList_range_k {T K E : TypeId} {bm : Nat} {l : List (α × Value)} (hg : Region.wanted o (yielded ops a.tmps) = true) (m : Operand) (hop : o.op = Op.range T m) (hT : P.underlying T = some (.map K E)) (hm : a.eval m = .map (some bm)) (h : KMap enc w bm l)
    (hk : ∀ w', KIter enc w' bm w.heap.size l l → Below w.heap.size w w' → w'.heap.size = w.heap.size + 1 → wpList P ops Q rest (a.put o.dst (.pointer (some ⟨w.heap.size, 0, none⟩))) w') : wpList P ops Q (o :: rest) a w := by
  refine wpList_wantK hg fun K' hK' => ?_
  obtain ⟨es, c, hb, hs, he⟩ := h
  have hrun := run_range_map (P := P) w T K E bm es c hT hb
  unfold Oper.wp
  simp [execOp, hop, hm, hrun, Result.andThen]
  refine hK' _ _ (hk _ ?_ (box_below' _ _) (by simp))
  have hlt := (Array.getElem?_eq_some_iff.1 hb).1
  refine ⟨es, c, #[], c, (Below.heap_alloc w _ bm hlt).trans hb, heap_alloc_new w _, hs, Nat.le_refl _, he, ?_⟩
  have : leftOf es #[] = es := by unfold leftOf; simp
  rw [this, he]

theorem wpList_next_k {bm r : Nat} {l left : List (α × Value)} (hg : Region.wanted o (yielded ops a.tmps) = true) (it : Operand) (hop : o.op = Op.next it false) (hit : a.eval it = .pointer (some ⟨r, 0, none⟩)) (h : KIter enc w bm r l left) (hne : r ≠ bm)
    (hDone : left = [] → wpList P ops Q rest (a.put o.dst (.tuple #[.bool false])) w)
    (hMore : ∀ (A : List (α × Value)) (x : α) (v : Value) (B : List (α × Value)) (w' : World), left = A ++ (x, v) :: B → KIter enc w' bm r l (A ++ B) → w.grownBy w' (some r) → w'.heap.size = w.heap.size →
      (Instr.entry (.pointer (some ⟨r, 0, none⟩))).run P w' = .ok (.tuple #[enc x, v]) w' → wpList P ops Q rest (a.put o.dst (.tuple #[.bool true, enc x, v])) w') : wpList P ops Q (o :: rest) a w := by
  refine wpList_wantK hg fun K' hK' => ?_
  obtain ⟨es, c, seen, c0, hb, hr, hs, hc, he, hl⟩ := h
  unfold Oper.wp
  rcases run_next_at (P := P) w o.type r bm c c0 seen es c hr hb hs.1 hc with ⟨h0, hrun⟩ | ⟨e, hm, w1, hw1, hrun⟩
  · simp [execOp, hop, hit, hrun, Result.andThen]
    refine hK' _ _ (hDone ?_)
    have : (leftOf es seen).toList = [] := List.eq_nil_of_length_eq_zero (by simpa using h0)
    rw [this] at hl
    simpa using hl.symm
  · have hml := mem_left hm
    have hnd : ((leftOf es seen).toList.map (·.born)).Nodup := by
      unfold leftOf
      rw [Array.toList_filter]
      exact List.Nodup.sublist (List.Sublist.map _ List.filter_sublist) hs.2.1
    obtain ⟨A, B, hAB, hfo⟩ := filter_out hm hnd
    rw [hAB] at hl
    obtain ⟨A', p, B', hL, hp, hAB'⟩ := map_split hl
    obtain ⟨x, v⟩ := p
    simp only [Prod.mk.injEq] at hp
    have hlr := (Array.getElem?_eq_some_iff.1 hr).1
    have hw1s : w1.heap = w.heap := by rcases hw1 with rfl | rfl <;> rfl
    have hg1 : w.grownBy w1 (some r) := by rcases hw1 with rfl | rfl; exact grown_refl _ _; exact grown_drew _ _
    have hg2 : w1.grownBy (Go.ChangeMaps.setBlock w1 r (.mapIter (some bm) c (seen.push e.born) c)) (some r) := by
      refine ⟨rfl, rfl, rfl, by simp [Go.ChangeMaps.setBlock], fun k hk hne => ?_⟩
      simp only [Go.ChangeMaps.setBlock]
      rw [Array.getElem?_setIfInBounds_ne]
      intro e; exact hne (by rw [e])
    have hgw := grown_trans hg1 hg2
    have hsz : (Go.ChangeMaps.setBlock w1 r (.mapIter (some bm) c (seen.push e.born) c)).heap.size = w.heap.size := by simp [Go.ChangeMaps.setBlock, hw1s]
    have hr' : (Go.ChangeMaps.setBlock w1 r (.mapIter (some bm) c (seen.push e.born) c)).heap[r]? = some (.mapIter (some bm) c (seen.push e.born) c) := by
      simp only [Go.ChangeMaps.setBlock, hw1s]
      rw [Array.getElem?_setIfInBounds_self_of_lt hlr]
    have hb' : (Go.ChangeMaps.setBlock w1 r (.mapIter (some bm) c (seen.push e.born) c)).heap[bm]? = some (.map es c) :=
      (hgw.block bm (Array.getElem?_eq_some_iff.1 hb).1 (by simpa using fun e => hne e.symm)).trans hb
    have hen := run_entry_at (P := P) _ r bm c seen es c e hr' hb' hml.1 hs.2.1
    rw [hp.1, hp.2] at hen
    simp [execOp, hop, hit, hrun, Result.andThen]
    rw [hp.1, hp.2]
    refine hK' _ _ (hMore A' x v B' _ hL ⟨es, c, seen.push e.born, c, hb', hr', hs, Nat.le_refl _, he, ?_⟩ hgw hsz hen)
    rw [left_push, hfo, hAB']

end

end Go.Proofs.Ythekefnocphcdaa

set_option linter.unusedVariables false

set_option linter.unusedSimpArgs false

namespace Go.Proofs.Ythekefnocphcdaa

def ltL : List Int → List Int → Bool
  | a :: r, b :: s => if a = b then ltL r s else decide (a < b)
  | _, _ => false

theorem ltL_irrefl : ∀ a : List Int, ltL a a = false
  | [] => rfl
  | a :: r => by simp only [ltL, if_true]; exact ltL_irrefl r

theorem ltL_trans : ∀ {a b c : List Int}, ltL a b = true → ltL b c = true → ltL a c = true
  | a :: r, b :: s, c :: t, h1, h2 => by
    simp only [ltL] at h1 h2 ⊢
    by_cases hab : a = b
    · subst hab
      rw [if_pos rfl] at h1
      by_cases hac : a = c
      · subst hac
        rw [if_pos rfl] at h2 ⊢
        exact ltL_trans h1 h2
      · rw [if_neg hac] at h2 ⊢
        exact h2
    · rw [if_neg hab] at h1
      by_cases hbc : b = c
      · subst hbc
        rw [if_neg hab]
        exact h1
      · rw [if_neg hbc] at h2
        have e1 := of_decide_eq_true h1
        have e2 := of_decide_eq_true h2
        rw [if_neg (by omega)]
        exact decide_eq_true (by omega)
  | [], b, c, h1, h2 => by cases b <;> cases h1
  | a :: r, [], c, h1, h2 => by cases h1
  | a :: r, b :: s, [], h1, h2 => by cases h2

theorem ltL_total : ∀ {a b : List Int}, a.length = b.length → a ≠ b → ltL a b = true ∨ ltL b a = true
  | [], [], _, h => absurd rfl h
  | [], b :: s, h, _ => by simp at h
  | a :: r, [], h, _ => by simp at h
  | a :: r, b :: s, h, hne => by
    simp only [ltL]
    by_cases hab : a = b
    · subst hab
      rw [if_pos rfl, if_pos rfl]
      exact ltL_total (by simpa using h) (fun e => hne (by rw [e]))
    · rw [if_neg hab, if_neg (fun e => hab e.symm)]
      rcases Int.lt_or_gt_of_ne hab with h1 | h1
      · exact .inl (decide_eq_true h1)
      · exact .inr (decide_eq_true h1)

theorem ltL_asymm {a b : List Int} (h : ltL a b = true) : ltL b a = false := by
  cases e : ltL b a with
  | false => rfl
  | true => have := ltL_trans h e; rw [ltL_irrefl] at this; cases this

theorem ltL_ne {a b : List Int} (h : ltL a b = true) : a ≠ b := by
  rintro rfl
  rw [ltL_irrefl] at h
  cases h

def SrtL (l : List (List Int)) : Prop := l.Pairwise fun a b => ltL a b = true

theorem srt_ext : ∀ {l m : List (List Int)}, SrtL l → SrtL m → (∀ x, x ∈ l ↔ x ∈ m) → l = m
  | [], [], _, _, _ => rfl
  | [], b :: m, _, _, h => by have := (h b).2 (by simp); cases this
  | a :: l, [], _, _, h => by have := (h a).1 (by simp); cases this
  | a :: l, b :: m, hl, hm, h => by
    have hl' := List.pairwise_cons.1 hl
    have hm' := List.pairwise_cons.1 hm
    have hab : a = b := by
      rcases List.mem_cons.1 ((h a).1 (by simp)) with e | e
      · exact e
      · rcases List.mem_cons.1 ((h b).2 (by simp)) with e' | e'
        · exact e'.symm
        · have h1 := hm'.1 a e
          have h2 := hl'.1 b e'
          rw [ltL_asymm h1] at h2
          cases h2
    subst hab
    rw [srt_ext hl'.2 hm'.2 (fun x => ?_)]
    constructor
    · intro hx
      rcases List.mem_cons.1 ((h x).1 (List.mem_cons_of_mem _ hx)) with e | e
      · exact absurd e (ltL_ne (hl'.1 x hx)).symm
      · exact e
    · intro hx
      rcases List.mem_cons.1 ((h x).2 (List.mem_cons_of_mem _ hx)) with e | e
      · exact absurd e (ltL_ne (hm'.1 x hx)).symm
      · exact e

theorem srt_nodup {l : List (List Int)} (h : SrtL l) : l.Nodup := h.imp fun h => ltL_ne h

/-- a list added, unless it is there -/
def putL (x : List Int) : List (List Int) → List (List Int)
  | [] => [x]
  | a :: l => if x = a then a :: l else if ltL x a then x :: a :: l else a :: putL x l

theorem mem_putL {x y : List Int} : ∀ {l : List (List Int)}, y ∈ putL x l ↔ y = x ∨ y ∈ l
  | [] => by simp [putL]
  | a :: l => by
    unfold putL
    by_cases h1 : x = a
    · subst h1; simp
    · rw [if_neg h1]
      by_cases h2 : ltL x a = true
      · rw [if_pos h2]; simp
      · rw [if_neg h2]
        simp only [List.mem_cons, mem_putL (l := l)]
        constructor
        · rintro (h | h | h)
          · exact .inr (.inl h)
          · exact .inl h
          · exact .inr (.inr h)
        · rintro (h | h | h)
          · exact .inr (.inl h)
          · exact .inl h
          · exact .inr (.inr h)

theorem srt_putL {x : List Int} : ∀ {l : List (List Int)}, SrtL l → (∀ a ∈ l, a.length = x.length) → SrtL (putL x l)
  | [], _, _ => by simp [putL, SrtL]
  | a :: l, h, hlen => by
    have h' := List.pairwise_cons.1 h
    unfold putL
    by_cases h1 : x = a
    · rw [if_pos h1]; exact h
    · rw [if_neg h1]
      by_cases h2 : ltL x a = true
      · rw [if_pos h2]
        refine List.pairwise_cons.2 ⟨fun b hb => ?_, h⟩
        rcases List.mem_cons.1 hb with rfl | hb
        · exact h2
        · exact ltL_trans h2 (h'.1 b hb)
      · rw [if_neg h2]
        refine List.pairwise_cons.2 ⟨fun b hb => ?_, srt_putL h'.2 (fun c hc => hlen c (List.mem_cons_of_mem _ hc))⟩
        rcases mem_putL.1 hb with rfl | hb
        · rcases ltL_total (hlen a (by simp)) (fun e => h1 e.symm) with h3 | h3
          · exact h3
          · exact absurd h3 h2
        · exact h'.1 b hb

def putAll (l : List (List Int)) (xs : List (List Int)) : List (List Int) := xs.foldl (fun l x => putL x l) l

theorem mem_putAll {y : List Int} : ∀ {xs l : List (List Int)}, y ∈ putAll l xs ↔ y ∈ xs ∨ y ∈ l
  | [], l => by simp [putAll]
  | x :: xs, l => by
    have := mem_putAll (y := y) (xs := xs) (l := putL x l)
    unfold putAll at this ⊢
    rw [List.foldl_cons, this, mem_putL, List.mem_cons]
    constructor
    · rintro (h | h | h)
      · exact .inl (.inr h)
      · exact .inl (.inl h)
      · exact .inr h
    · rintro ((h | h) | h)
      · exact .inr (.inl h)
      · exact .inl h
      · exact .inr (.inr h)

theorem srt_putAll {n : Nat} : ∀ {xs l : List (List Int)}, SrtL l → (∀ a ∈ l, a.length = n) → (∀ x ∈ xs, x.length = n) → SrtL (putAll l xs)
  | [], l, h, _, _ => h
  | x :: xs, l, h, hl, hx => by
    unfold putAll
    rw [List.foldl_cons]
    refine srt_putAll (srt_putL h (fun a ha => by rw [hl a ha, hx x (by simp)])) (fun a ha => ?_) (fun y hy => hx y (List.mem_cons_of_mem _ hy))
    rcases mem_putL.1 ha with rfl | ha
    · exact hx _ (by simp)
    · exact hl a ha

/-- the permutations of the numbers below n that begin with some, in order -/
def permsF (n : Nat) : Nat → List Int → List (List Int)
  | 0, b => [b]
  | f + 1, b => (List.range n).flatMap fun (x : Nat) => if hasB b (x : Int) then [] else permsF n f (b ++ [(x : Int)])

def permsL (n : Nat) : List (List Int) := permsF n n []

def Begins (n : Nat) (b : List Int) : Prop := b.Nodup ∧ ∀ x ∈ b, 0 ≤ x ∧ x < (n : Int)

theorem mem_permsF {n : Nat} {π : List Int} : ∀ (f : Nat) (b : List Int), Begins n b → (π ∈ permsF n f b ↔ ∃ r, π = b ++ r ∧ r.length = f ∧ Begins n π)
  | 0, b, hb => by
    simp only [permsF, List.mem_singleton]
    constructor
    · rintro rfl; exact ⟨[], by simp, rfl, hb⟩
    · rintro ⟨r, rfl, h, _⟩
      rw [List.length_eq_zero_iff.1 h]; simp
  | f + 1, b, hb => by
    simp only [permsF, List.mem_flatMap, List.mem_range]
    constructor
    · rintro ⟨x, hx, hm⟩
      by_cases h : hasB b (x : Int) = true
      · rw [if_pos h] at hm; cases hm
      · rw [if_neg h] at hm
        have hnb : (x : Int) ∉ b := by unfold hasB at h; simpa using h
        have hb' : Begins n (b ++ [(x : Int)]) := by
          refine ⟨List.nodup_append.2 ⟨hb.1, by simp, fun y hy z hz e => ?_⟩, fun y hy => ?_⟩
          · obtain rfl := List.mem_singleton.1 hz
            subst e
            exact hnb hy
          · rcases List.mem_append.1 hy with hy | hy
            · exact hb.2 y hy
            · obtain rfl := List.mem_singleton.1 hy; omega
        obtain ⟨r, h1, h2, h3⟩ := (mem_permsF f _ hb').1 hm
        exact ⟨(x : Int) :: r, by rw [h1]; simp, by simp [h2], h3⟩
    · rintro ⟨r, rfl, hr, hp⟩
      cases r with
      | nil => simp at hr
      | cons y r =>
        have hy := hp.2 y (by simp)
        have hyb : y ∉ b := by
          intro hm
          have := (List.nodup_append.1 hp.1).2.2 y hm y (by simp)
          exact this rfl
        have hyx : ((y.toNat : Nat) : Int) = y := Int.toNat_of_nonneg hy.1
        refine ⟨y.toNat, by omega, ?_⟩
        rw [hyx, if_neg (by unfold hasB; simpa using hyb)]
        have hb' : Begins n (b ++ [y]) := by
          have e : b ++ y :: r = (b ++ [y]) ++ r := by simp
          rw [e] at hp
          exact ⟨(List.nodup_append.1 hp.1).1, fun z hz => hp.2 z (List.mem_append_left _ hz)⟩
        exact (mem_permsF f _ hb').2 ⟨r, by simp, by simpa using hr, hp⟩

theorem mem_permsL {n : Nat} {π : List Int} : π ∈ permsL n ↔ permB π (n : Int) = true := by
  unfold permsL
  rw [mem_permsF n [] ⟨List.nodup_nil, fun x h => by cases h⟩]
  unfold permB inB diffB
  simp only [List.nil_append, Bool.and_eq_true, decide_eq_true_eq, List.all_eq_true]
  constructor
  · rintro ⟨r, rfl, h1, h2, h3⟩
    exact ⟨fun x hx => h3 x hx, by omega, h2⟩
  · rintro ⟨h1, h2, h3⟩
    exact ⟨π, rfl, by omega, h3, fun x hx => h1 x hx⟩

end Go.Proofs.Ythekefnocphcdaa

set_option linter.unusedVariables false

set_option linter.unusedSimpArgs false

namespace Go.Proofs.Ythekefnocphcdaa

/-- where a letter is behind a lot -/
def mvI (ins π : List Int) (n : Int) (x : Int) : Int := if hasB ins x then n + nth π (ins.idxOf x) else x

def moveL (ins π : List Int) (n : Int) (p : List Int) : List Int := p.map (mvI ins π n)

def permsOf (x : Lot) : List (List Int) := if x.known then [x.perm] else permsL x.ins.length

def outsL (f : Flow) (k : Nat) (p : List Int) : List (List Int) := (permsOf (lotAt f.lots k)).map fun π => moveL (lotAt f.lots k).ins π (beforeI f k) p

def beginL (f : Flow) : List Int := (List.range f.senders.toNat).map Int.ofNat

/-- the assignments behind the first k lots -/
def asgTo (f : Flow) : Nat → List (List Int)
  | 0 => [beginL f]
  | k + 1 => putAll [] ((asgTo f k).flatMap (outsL f k))

def asgL (f : Flow) : List (List Int) := asgTo f f.lots.length

theorem mem_asgTo {f : Flow} {k : Nat} {q : List Int} : q ∈ asgTo f (k + 1) ↔ ∃ p ∈ asgTo f k, ∃ π ∈ permsOf (lotAt f.lots k), q = moveL (lotAt f.lots k).ins π (beforeI f k) p := by
  show q ∈ putAll [] ((asgTo f k).flatMap (outsL f k)) ↔ _
  rw [mem_putAll]
  simp only [List.mem_flatMap, outsL, List.mem_map, List.not_mem_nil, or_false]
  constructor
  · rintro ⟨p, hp, π, hπ, rfl⟩; exact ⟨p, hp, π, hπ, rfl⟩
  · rintro ⟨p, hp, π, hπ, rfl⟩; exact ⟨p, hp, π, hπ, rfl⟩

theorem asg_len {f : Flow} : ∀ k, ∀ p ∈ asgTo f k, p.length = f.senders.toNat
  | 0, p, hp => by
    obtain rfl : p = beginL f := List.mem_singleton.1 hp
    simp [beginL]
  | k + 1, p, hp => by
    obtain ⟨q, hq, π, _, rfl⟩ := mem_asgTo.1 hp
    unfold moveL
    rw [List.length_map]
    exact asg_len k q hq

theorem asg_srt {f : Flow} : ∀ k, SrtL (asgTo f k)
  | 0 => by unfold asgTo SrtL; simp
  | k + 1 => by
    show SrtL (putAll [] ((asgTo f k).flatMap (outsL f k)))
    refine srt_putAll (n := f.senders.toNat) (by simp [SrtL]) (fun a ha => by cases ha) (fun q hq => ?_)
    refine asg_len (f := f) (k + 1) q ?_
    show q ∈ putAll [] ((asgTo f k).flatMap (outsL f k))
    rw [mem_putAll]
    exact .inl hq

/-- the letters are at the spots that are free behind the first k lots -/
def AllAt (f : Flow) (k : Nat) (p : List Int) : Prop := p.Nodup ∧ ∀ x, x ∈ p ↔ (0 ≤ x ∧ x < beforeI f k ∧ goneB f x k = false)

theorem lotB_parts {f : Flow} {k : Nat} (h : lotB f k = true) : (lotAt f.lots k).ins ≠ [] ∧ (lotAt f.lots k).ins.Nodup ∧ (∀ x ∈ (lotAt f.lots k).ins, 0 ≤ x ∧ x < beforeI f k ∧ goneB f x k = false) ∧
    ((lotAt f.lots k).known = true → permB (lotAt f.lots k).perm (lotAt f.lots k).ins.length = true) ∧ ((lotAt f.lots k).known = false → (lotAt f.lots k).perm = []) := by
  unfold lotB at h
  simp only [Bool.and_eq_true, decide_eq_true_eq, List.all_eq_true, Bool.not_eq_true'] at h
  obtain ⟨⟨⟨h1, h2⟩, h3⟩, h4⟩ := h
  unfold diffB at h2
  refine ⟨h1, of_decide_eq_true h2, fun x hx => ?_, fun hk => ?_, fun hk => ?_⟩
  · have := h3 x hx
    exact ⟨this.1.1, this.1.2, this.2⟩
  · rw [hk] at h4; simpa using h4
  · rw [hk] at h4; simpa using h4

theorem permB_parts {π : List Int} {n : Nat} (h : permB π (n : Int) = true) : (∀ x ∈ π, 0 ≤ x ∧ x < (n : Int)) ∧ π.length = n ∧ π.Nodup := by
  unfold permB inB diffB at h
  simp only [Bool.and_eq_true, decide_eq_true_eq, List.all_eq_true] at h
  exact ⟨h.1, by omega, h.2.2⟩

theorem permsOf_perm {f : Flow} {k : Nat} (h : lotB f k = true) {π : List Int} (hπ : π ∈ permsOf (lotAt f.lots k)) : permB π (lotAt f.lots k).ins.length = true := by
  unfold permsOf at hπ
  obtain ⟨_, _, _, h4, _⟩ := lotB_parts h
  cases hk : (lotAt f.lots k).known with
  | true =>
    rw [hk] at hπ
    obtain rfl := List.mem_singleton.1 hπ
    exact h4 hk
  | false =>
    rw [hk] at hπ
    exact mem_permsL.1 hπ

theorem nodup_len : ∀ {l m : List Int}, l.Nodup → (∀ x ∈ l, x ∈ m) → l.length ≤ m.length
  | [], m, _, _ => by simp
  | a :: l, m, hn, hs => by
    have h' := List.nodup_cons.1 hn
    have ih := nodup_len (l := l) (m := m.erase a) h'.2 (fun x hx => (List.mem_erase_of_ne (fun e => h'.1 (by rw [← e]; exact hx))).2 (hs x (List.mem_cons_of_mem _ hx)))
    have hm := hs a (List.mem_cons_self ..)
    have := List.length_erase_of_mem hm
    have := List.length_pos_of_mem hm
    simp only [List.length_cons]
    omega

/-- a list of n different numbers below n has all of them -/
theorem full_of {π : List Int} {n : Nat} (h : permB π (n : Int) = true) {j : Nat} (hj : j < n) : (j : Int) ∈ π := by
  obtain ⟨h1, h2, h3⟩ := permB_parts h
  have hsub : π ⊆ (List.range n).map Int.ofNat := by
    intro x hx
    have := h1 x hx
    exact List.mem_map.2 ⟨x.toNat, List.mem_range.2 (by omega), Int.toNat_of_nonneg this.1⟩
  refine Classical.byContradiction fun hn => ?_
  have hsub2 : (j : Int) :: π ⊆ (List.range n).map Int.ofNat := by
    intro x hx
    rcases List.mem_cons.1 hx with rfl | hx
    · exact List.mem_map.2 ⟨j, List.mem_range.2 hj, rfl⟩
    · exact hsub hx
  have hnd : ((j : Int) :: π).Nodup := List.nodup_cons.2 ⟨hn, h3⟩
  have := nodup_len hnd (fun x hx => hsub2 hx)
  simp at this
  omega

theorem nth_mem' {l : List Int} {i : Nat} (h : i < l.length) : nth l i ∈ l := by
  unfold nth
  rw [List.getD_eq_getElem?_getD, List.getElem?_eq_getElem h]
  exact List.getElem_mem h

theorem hasB_mem {l : List Int} {x : Int} : hasB l x = true ↔ x ∈ l := by unfold hasB; simp

/-- a letter that goes into a lot comes out at one of its places -/
theorem mv_in {ins π : List Int} {n x : Int} (hp : permB π (ins.length : Int) = true) (hx : x ∈ ins) : ∃ j : Int, j ∈ π ∧ mvI ins π n x = n + j ∧ 0 ≤ j ∧ j < ins.length ∧ j = nth π (ins.idxOf x) := by
  obtain ⟨h1, h2, h3⟩ := permB_parts hp
  have hi : ins.idxOf x < ins.length := List.idxOf_lt_length_of_mem hx
  have hm := nth_mem' (l := π) (i := ins.idxOf x) (by omega)
  exact ⟨nth π (ins.idxOf x), hm, by unfold mvI; rw [if_pos (hasB_mem.2 hx)], (h1 _ hm).1, (h1 _ hm).2, rfl⟩

theorem mv_out {ins π : List Int} {n x : Int} (hx : x ∉ ins) : mvI ins π n x = x := by
  unfold mvI
  rw [if_neg (fun h => hx (hasB_mem.1 h))]

theorem nth_injC {l : List Int} (hn : l.Nodup) {i j : Nat} (hi : i < l.length) (hj : j < l.length) (h : nth l i = nth l j) : i = j := by
  rw [nth_lt hi, nth_lt hj] at h
  have hp := List.pairwise_iff_getElem.1 hn
  rcases Nat.lt_trichotomy i j with hlt | heq | hgt
  · exact absurd h (hp i j hi hj hlt)
  · exact heq
  · exact absurd h.symm (hp j i hj hi hgt)

theorem idx_inj {l : List Int} {x y : Int} (hx : x ∈ l) (hy : y ∈ l) (h : l.idxOf x = l.idxOf y) : x = y := by
  have e1 := List.getElem_idxOf (List.idxOf_lt_length_of_mem hx)
  have e2 := List.getElem_idxOf (List.idxOf_lt_length_of_mem hy)
  rw [← e1, ← e2]
  simp only [h]

/-- moving is one to one on the spots before a lot -/
theorem mv_inj {ins π : List Int} {n x y : Int} (hp : permB π (ins.length : Int) = true) (hx : x < n) (hy : y < n) (h : mvI ins π n x = mvI ins π n y) : x = y := by
  by_cases h1 : x ∈ ins
  · obtain ⟨j, _, e1, e2, e3, e4⟩ := mv_in (n := n) hp h1
    by_cases h2 : y ∈ ins
    · obtain ⟨j', _, f1, f2, f3, f4⟩ := mv_in (n := n) hp h2
      rw [e1, f1] at h
      have hj : j = j' := by omega
      rw [e4, f4] at hj
      obtain ⟨_, p2, p3⟩ := permB_parts hp
      exact idx_inj h1 h2 (nth_injC p3 (by rw [p2]; exact List.idxOf_lt_length_of_mem h1) (by rw [p2]; exact List.idxOf_lt_length_of_mem h2) hj)
    · rw [e1, mv_out h2] at h; omega
  · rw [mv_out h1] at h
    by_cases h2 : y ∈ ins
    · obtain ⟨j', _, f1, f2, f3, f4⟩ := mv_in (n := n) hp h2
      rw [f1] at h; omega
    · rw [mv_out h2] at h; exact h

theorem goneB_lt {f : Flow} {m : Nat} (hl : lotsB f m = true) {x : Int} : goneB f x m = true → x < beforeI f m := by
  induction m with
  | zero => intro h; cases h
  | succ m ih =>
    intro h
    have hl' : lotsB f m = true := by simp only [lotsB, Bool.and_eq_true] at hl; exact hl.1
    have hlot := lotsB_lot hl (show m < m + 1 by omega)
    simp only [goneB, Bool.or_eq_true] at h
    simp only [beforeI]
    rcases h with h | h
    · have := ih hl' h; omega
    · have := ((lotB_parts hlot).2.2.1 x (hasB_mem.1 h)).2.1; omega

theorem all_step {f : Flow} {k : Nat} (hl : lotsB f (k + 1) = true) (h0 : 0 ≤ beforeI f k) {p π : List Int} (h : AllAt f k p) (hπ : permB π (lotAt f.lots k).ins.length = true) :
    AllAt f (k + 1) (moveL (lotAt f.lots k).ins π (beforeI f k) p) := by
  have hl' : lotsB f k = true := by simp only [lotsB, Bool.and_eq_true] at hl; exact hl.1
  obtain ⟨hi1, hi2, hi3, _⟩ := lotB_parts (lotsB_lot hl (show k < k + 1 by omega))
  obtain ⟨hn, hm⟩ := h
  obtain ⟨p1, p2, p3⟩ := permB_parts hπ
  refine ⟨?_, fun x => ?_⟩
  · unfold moveL
    refine List.pairwise_map.2 (hn.imp_of_mem fun {a b} ha hb hne e => hne ?_)
    exact mv_inj hπ ((hm a).1 ha).2.1 ((hm b).1 hb).2.1 e
  · unfold moveL
    simp only [List.mem_map, beforeI, goneB, Bool.or_eq_false_iff]
    constructor
    · rintro ⟨y, hy, rfl⟩
      obtain ⟨y1, y2, y3⟩ := (hm y).1 hy
      by_cases hyi : y ∈ (lotAt f.lots k).ins
      · obtain ⟨j, _, e1, e2, e3, _⟩ := mv_in (n := beforeI f k) hπ hyi
        rw [e1]
        refine ⟨by omega, by omega, ?_, ?_⟩
        · cases hg : goneB f (beforeI f k + j) k with
          | false => rfl
          | true => have := goneB_lt hl' hg; omega
        · cases hg : hasB (lotAt f.lots k).ins (beforeI f k + j) with
          | false => rfl
          | true => have := (hi3 _ (hasB_mem.1 hg)).2.1; omega
      · rw [mv_out hyi]
        refine ⟨y1, by omega, y3, ?_⟩
        cases hg : hasB (lotAt f.lots k).ins y with
        | false => rfl
        | true => exact absurd (hasB_mem.1 hg) hyi
    · rintro ⟨x1, x2, x3, x4⟩
      by_cases hx : x < beforeI f k
      · refine ⟨x, (hm x).2 ⟨x1, hx, x3⟩, mv_out (fun hmem => ?_)⟩
        rw [hasB_mem.2 hmem] at x4
        cases x4
      · have hj : (x - beforeI f k).toNat < (lotAt f.lots k).ins.length := by omega
        have hmem := full_of hπ hj
        have hjx : (((x - beforeI f k).toNat : Nat) : Int) = x - beforeI f k := Int.toNat_of_nonneg (by omega)
        rw [hjx] at hmem
        have hi : π.idxOf (x - beforeI f k) < (lotAt f.lots k).ins.length := by rw [← p2]; exact List.idxOf_lt_length_of_mem hmem
        refine ⟨nth (lotAt f.lots k).ins (π.idxOf (x - beforeI f k)), (hm _).2 (hi3 _ (nth_mem' hi)), ?_⟩
        have hmy := nth_mem' hi
        unfold mvI
        rw [if_pos (hasB_mem.2 hmy)]
        have hidx : (lotAt f.lots k).ins.idxOf (nth (lotAt f.lots k).ins (π.idxOf (x - beforeI f k))) = π.idxOf (x - beforeI f k) := by
          rw [nth_lt hi]
          exact hi2.idxOf_getElem _ hi
        rw [hidx, nth_lt (by rw [p2]; exact hi), List.getElem_idxOf]
        omega

theorem asg_all {f : Flow} (h0 : 0 ≤ f.senders) : ∀ k, lotsB f k = true → ∀ p ∈ asgTo f k, AllAt f k p
  | 0, _, p, hp => by
    obtain rfl : p = beginL f := List.mem_singleton.1 hp
    refine ⟨?_, fun x => ?_⟩
    · unfold beginL
      exact List.pairwise_map.2 (List.nodup_range.imp fun {a b} hne e => hne (by have e' : (a : Int) = (b : Int) := e; omega))
    · unfold beginL
      simp only [List.mem_map, List.mem_range, beforeI, goneB, and_true]
      constructor
      · rintro ⟨a, ha, rfl⟩; simp; omega
      · rintro ⟨a, b⟩; exact ⟨x.toNat, by omega, by simp; omega⟩
  | k + 1, hl, p, hp => by
    have hl' : lotsB f k = true := by simp only [lotsB, Bool.and_eq_true] at hl; exact hl.1
    obtain ⟨q, hq, π, hπ, rfl⟩ := mem_asgTo.1 hp
    have hb : 0 ≤ beforeI f k := by
      have : ∀ j, 0 ≤ beforeI f j := fun j => by
        induction j with
        | zero => exact h0
        | succ j ih => simp only [beforeI]; omega
      exact this k
    exact all_step hl hb (asg_all h0 k hl' q hq) (permsOf_perm (lotsB_lot hl (show k < k + 1 by omega)) hπ)

end Go.Proofs.Ythekefnocphcdaa

set_option linter.unusedVariables false

set_option linter.unusedSimpArgs false

namespace Go.Proofs.Ythekefnocphcdaa

theorem nodup_lenG {α : Type} [DecidableEq α] : ∀ {l m : List α}, l.Nodup → (∀ x ∈ l, x ∈ m) → l.length ≤ m.length
  | [], m, _, _ => by simp
  | a :: l, m, hn, hs => by
    have h' := List.nodup_cons.1 hn
    have ih := nodup_lenG (l := l) (m := m.erase a) h'.2 (fun x hx => (List.mem_erase_of_ne (fun e => h'.1 (by rw [← e]; exact hx))).2 (hs x (List.mem_cons_of_mem _ hx)))
    have hm := hs a (List.mem_cons_self ..)
    have := List.length_erase_of_mem hm
    have := List.length_pos_of_mem hm
    simp only [List.length_cons]
    omega

def tuplesL (E : List Int) : Nat → List (List Int)
  | 0 => [[]]
  | n + 1 => E.flatMap fun x => (tuplesL E n).map fun t => x :: t

theorem tuples_len (E : List Int) : ∀ n, (tuplesL E n).length = E.length ^ n
  | 0 => rfl
  | n + 1 => by
    have ih := tuples_len E n
    have h : ∀ l : List Int, (l.flatMap fun x => (tuplesL E n).map fun t => x :: t).length = l.length * E.length ^ n := by
      intro l
      induction l with
      | nil => simp
      | cons a l ihl => rw [List.flatMap_cons, List.length_append, ihl, List.length_map, ih, List.length_cons, Nat.add_mul, Nat.one_mul, Nat.add_comm]
    show (E.flatMap fun x => (tuplesL E n).map fun t => x :: t).length = _
    rw [h E, Nat.pow_succ, Nat.mul_comm]

theorem mem_tuples {E : List Int} : ∀ {n : Nat} {p : List Int}, p.length = n → (∀ x ∈ p, x ∈ E) → p ∈ tuplesL E n
  | 0, p, hp, _ => by
    obtain rfl := List.length_eq_zero_iff.1 hp
    simp [tuplesL]
  | n + 1, [], hp, _ => by simp at hp
  | n + 1, x :: p, hp, h => by
    show _ ∈ E.flatMap fun x => (tuplesL E n).map fun t => x :: t
    exact List.mem_flatMap.2 ⟨x, h x (by simp), List.mem_map.2 ⟨p, mem_tuples (by simpa using hp) (fun y hy => h y (List.mem_cons_of_mem _ hy)), rfl⟩⟩

theorem asg_ne {f : Flow} (h0 : 0 ≤ f.senders) : ∀ k, lotsB f k = true → asgTo f k ≠ []
  | 0, _ => by simp [asgTo]
  | k + 1, hl => by
    have hl' : lotsB f k = true := by simp only [lotsB, Bool.and_eq_true] at hl; exact hl.1
    obtain ⟨p, hp⟩ := List.exists_mem_of_ne_nil _ (asg_ne h0 k hl')
    have hπ : ∃ π, π ∈ permsOf (lotAt f.lots k) := by
      unfold permsOf
      cases hk : (lotAt f.lots k).known with
      | true => exact ⟨_, by simp; rfl⟩
      | false =>
        refine ⟨(List.range (lotAt f.lots k).ins.length).map Int.ofNat, ?_⟩
        rw [if_neg (by decide), mem_permsL]
        unfold permB inB diffB
        simp only [Bool.and_eq_true, decide_eq_true_eq, List.all_eq_true, List.mem_map, List.mem_range, List.length_map, List.length_range, and_true, true_and]
        refine ⟨?_, List.pairwise_map.2 (List.nodup_range.imp fun {a b} hne e => hne (by have e' : (a : Int) = (b : Int) := e; omega))⟩
        rintro x ⟨a, ha, rfl⟩
        exact ⟨by simp, by simp; omega⟩
    obtain ⟨π, hπ⟩ := hπ
    exact List.ne_nil_of_mem (mem_asgTo.2 ⟨p, hp, π, hπ, rfl⟩)

theorem asg_bound {f : Flow} (h0 : 0 ≤ f.senders) {k : Nat} (hl : lotsB f k = true) : (asgTo f k).length ≤ f.senders.toNat ^ f.senders.toNat := by
  obtain ⟨p0, hp0⟩ := List.exists_mem_of_ne_nil _ (asg_ne h0 k hl)
  have h1 := asg_all h0 k hl p0 hp0
  have hlen := asg_len k p0 hp0
  rw [← hlen]
  have := nodup_lenG (m := tuplesL p0 p0.length) (srt_nodup (asg_srt (f := f) k)) (fun p hp => by
    have h2 := asg_all h0 k hl p hp
    exact mem_tuples (by rw [asg_len k p hp, hlen]) (fun x hx => (h1.2 x).2 ((h2.2 x).1 hx)))
  rwa [tuples_len] at this

theorem asg_few {f : Flow} (h0 : 0 ≤ f.senders) (h5 : f.senders ≤ 5) {k : Nat} (hl : lotsB f k = true) : (asgTo f k).length ≤ 5040 := by
  have h := asg_bound h0 hl
  have hs : f.senders.toNat ≤ 5 := by omega
  generalize f.senders.toNat = n at *
  match n, hs with
  | 0, _ => simp at h; omega
  | 1, _ => simp at h; omega
  | 2, _ => simp at h; omega
  | 3, _ => simp at h; omega
  | 4, _ => simp at h; omega
  | 5, _ => simp at h; omega

/-- are there too many assignments behind one of the first k lots? -/
def manyTo (f : Flow) : Nat → Bool
  | 0 => false
  | k + 1 => manyTo f k || decide (5040 < (asgTo f (k + 1)).length)

def allE (f : Flow) : Int := if checkE f ≠ 0 then checkE f else if 8 < f.senders then 2 else if manyTo f f.lots.length then 2 else 0

def allR (f : Flow) : List (List Int) := if allE f = 0 then asgL f else []

def countR (f : Flow) : Int := ((allR f).length : Int)

def possB (f : Flow) (a : List Int) : Bool := decide (allE f = 0) && decide (a ∈ asgL f)

theorem many_no {f : Flow} (h0 : 0 ≤ f.senders) (h5 : f.senders ≤ 5) : ∀ k, lotsB f k = true → manyTo f k = false
  | 0, _ => rfl
  | k + 1, hl => by
    have hl' : lotsB f k = true := by simp only [lotsB, Bool.and_eq_true] at hl; exact hl.1
    have := asg_few h0 h5 hl
    simp only [manyTo, many_no h0 h5 k hl', Bool.false_or, decide_eq_false_iff_not]
    omega

theorem allE_few {f : Flow} (hc : checkE f = 0) (h5 : f.senders ≤ 5) : allE f = 0 := by
  obtain ⟨h0, _, _, _, hl⟩ := checkE_ok hc
  unfold allE
  rw [if_neg (by rw [hc]; decide), if_neg (by omega), many_no h0 h5 _ hl, if_neg (by decide)]

end Go.Proofs.Ythekefnocphcdaa

set_option linter.unusedVariables false

set_option linter.unusedSimpArgs false

namespace Go.Proofs.Ythekefnocphcdaa

def setK (f : Flow) (k : Nat) (π : List Int) : Flow := { f with lots := f.lots.set k { (lotAt f.lots k) with known := true, perm := π } }

theorem lotAt_set {f : Flow} {k : Nat} {π : List Int} (hk : k < f.lots.length) (j : Nat) : lotAt (setK f k π).lots j = if j = k then { (lotAt f.lots k) with known := true, perm := π } else lotAt f.lots j := by
  unfold setK lotAt
  simp only
  rw [List.getD_eq_getElem?_getD, List.getD_eq_getElem?_getD, List.getD_eq_getElem?_getD]
  by_cases h : j = k
  · subst h
    rw [List.getElem?_set_self hk, if_pos rfl]
    rfl
  · rw [List.getElem?_set_ne (fun e => h e.symm), if_neg h]

theorem set_ins {f : Flow} {k : Nat} {π : List Int} (hk : k < f.lots.length) (j : Nat) : (lotAt (setK f k π).lots j).ins = (lotAt f.lots j).ins := by
  rw [lotAt_set hk]
  by_cases h : j = k
  · rw [if_pos h, h]
  · rw [if_neg h]

theorem set_before {f : Flow} {k : Nat} {π : List Int} (hk : k < f.lots.length) : ∀ j, beforeI (setK f k π) j = beforeI f j
  | 0 => rfl
  | j + 1 => by simp only [beforeI, set_before hk j, set_ins hk]

theorem set_gone {f : Flow} {k : Nat} {π : List Int} (hk : k < f.lots.length) (x : Int) : ∀ j, goneB (setK f k π) x j = goneB f x j
  | 0 => rfl
  | j + 1 => by simp only [goneB, set_gone hk x j, set_ins hk]

theorem set_lotB {f : Flow} {k : Nat} {π : List Int} (hk : k < f.lots.length) (hπ : permB π (lotAt f.lots k).ins.length = true) {j : Nat} (h : lotB f j = true) : lotB (setK f k π) j = true := by
  unfold lotB at h ⊢
  simp only [set_before hk, set_gone hk, set_ins hk] at h ⊢
  by_cases hj : j = k
  · subst hj
    rw [lotAt_set hk, if_pos rfl]
    simp only [Bool.and_eq_true] at h ⊢
    exact ⟨h.1, by simpa using hπ⟩
  · rw [lotAt_set hk, if_neg hj]
    exact h

theorem set_lotsB {f : Flow} {k : Nat} {π : List Int} (hk : k < f.lots.length) (hπ : permB π (lotAt f.lots k).ins.length = true) : ∀ j, lotsB f j = true → lotsB (setK f k π) j = true
  | 0, _ => rfl
  | j + 1, h => by
    simp only [lotsB, Bool.and_eq_true] at h ⊢
    exact ⟨set_lotsB hk hπ j h.1, set_lotB hk hπ h.2⟩

theorem set_len (f : Flow) (k : Nat) (π : List Int) : (setK f k π).lots.length = f.lots.length := by unfold setK; simp

theorem set_check {f : Flow} {k : Nat} {π : List Int} (hk : k < f.lots.length) (hπ : permB π (lotAt f.lots k).ins.length = true) (h : checkE f = 0) : checkE (setK f k π) = 0 := by
  obtain ⟨h0, h1, h2, h3, h4⟩ := checkE_ok h
  unfold checkE
  have e1 : (setK f k π).senders = f.senders := rfl
  rw [set_len, set_before hk, e1, if_neg (by omega), if_neg (by omega), set_lotsB hk hπ _ h4, if_pos rfl]

theorem set_asg_low {f : Flow} {k : Nat} {π : List Int} (hk : k < f.lots.length) : ∀ j, j ≤ k → asgTo (setK f k π) j = asgTo f j
  | 0, _ => rfl
  | j + 1, h => by
    show putAll [] ((asgTo (setK f k π) j).flatMap (outsL (setK f k π) j)) = putAll [] ((asgTo f j).flatMap (outsL f j))
    rw [set_asg_low hk j (by omega)]
    congr 2
    funext p
    unfold outsL
    rw [lotAt_set hk, if_neg (by omega), set_before hk]

/-- an unknown lot is any of its permutations -/
theorem union_mem {f : Flow} {k : Nat} (hk : k < f.lots.length) (hu : (lotAt f.lots k).known = false) : ∀ j, k < j → ∀ x, x ∈ asgTo f j ↔ ∃ π ∈ permsL (lotAt f.lots k).ins.length, x ∈ asgTo (setK f k π) j
  | 0, h, _ => by omega
  | j + 1, h, x => by
    rw [mem_asgTo]
    by_cases hj : j = k
    · subst hj
      constructor
      · rintro ⟨p, hp, π, hπ, rfl⟩
        have hπ' : π ∈ permsL (lotAt f.lots j).ins.length := by unfold permsOf at hπ; rw [hu] at hπ; exact hπ
        refine ⟨π, hπ', mem_asgTo.2 ⟨p, by rw [set_asg_low hk j (Nat.le_refl _)]; exact hp, π, ?_, ?_⟩⟩
        · rw [lotAt_set hk, if_pos rfl]; simp [permsOf]
        · rw [set_ins hk, set_before hk]
      · rintro ⟨π, hπ, hx⟩
        obtain ⟨p, hp, π', hπ', rfl⟩ := mem_asgTo.1 hx
        rw [set_asg_low hk j (Nat.le_refl _)] at hp
        rw [lotAt_set hk, if_pos rfl] at hπ'
        have : π' = π := by simpa [permsOf] using hπ'
        subst this
        exact ⟨p, hp, π', by unfold permsOf; rw [hu]; exact hπ, by rw [set_ins hk, set_before hk]⟩
    · have ih := union_mem hk hu j (by omega)
      constructor
      · rintro ⟨p, hp, π, hπ, rfl⟩
        obtain ⟨ρ, hρ, hp'⟩ := (ih p).1 hp
        refine ⟨ρ, hρ, mem_asgTo.2 ⟨p, hp', π, ?_, ?_⟩⟩
        · rw [lotAt_set hk, if_neg hj]; exact hπ
        · rw [set_ins hk, set_before hk]
      · rintro ⟨ρ, hρ, hx⟩
        obtain ⟨p, hp, π, hπ, rfl⟩ := mem_asgTo.1 hx
        rw [lotAt_set hk, if_neg hj] at hπ
        exact ⟨p, (ih p).2 ⟨ρ, hρ, hp⟩, π, hπ, by rw [set_ins hk, set_before hk]⟩

end Go.Proofs.Ythekefnocphcdaa

set_option linter.unusedVariables false

set_option linter.unusedSimpArgs false

namespace Go.Proofs.Ythekefnocphcdaa

theorem put_nodup {n : Nat} {xs : List (List Int)} (hx : ∀ x ∈ xs, x.length = n) : (putAll [] xs).Nodup :=
  srt_nodup (srt_putAll (n := n) (by simp [SrtL]) (fun a ha => by cases ha) hx)

theorem put_le {n : Nat} {xs : List (List Int)} (hx : ∀ x ∈ xs, x.length = n) : (putAll [] xs).length ≤ xs.length :=
  nodup_lenG (put_nodup hx) (fun y hy => by
    rcases mem_putAll.1 hy with h | h
    · exact h
    · cases h)

theorem put_ge {xs ys : List (List Int)} (hn : ys.Nodup) (hs : ∀ y ∈ ys, y ∈ xs) : ys.length ≤ (putAll [] xs).length :=
  nodup_lenG hn (fun y hy => mem_putAll.2 (.inl (hs y hy)))

/-- moving is one to one on assignments -/
theorem move_inj {f : Flow} {k : Nat} {π : List Int} (hπ : permB π (lotAt f.lots k).ins.length = true) : ∀ {p q : List Int}, (∀ x ∈ p, x < beforeI f k) → (∀ x ∈ q, x < beforeI f k) → moveL (lotAt f.lots k).ins π (beforeI f k) p = moveL (lotAt f.lots k).ins π (beforeI f k) q → p = q
  | [], [], _, _, _ => rfl
  | [], b :: q, _, _, h => by simp [moveL] at h
  | a :: p, [], _, _, h => by simp [moveL] at h
  | a :: p, b :: q, hp, hq, h => by
    simp only [moveL, List.map_cons, List.cons.injEq] at h
    have e1 := mv_inj hπ (hp a (by simp)) (hq b (by simp)) h.1
    have e2 := move_inj hπ (fun x hx => hp x (List.mem_cons_of_mem _ hx)) (fun x hx => hq x (List.mem_cons_of_mem _ hx)) h.2
    rw [e1, e2]

theorem map_nodupL {g : List Int → List Int} : ∀ {l : List (List Int)}, l.Nodup → (∀ p ∈ l, ∀ q ∈ l, g p = g q → p = q) → (l.map g).Nodup
  | [], _, _ => by simp
  | a :: l, h, hg => by
    have h' := List.nodup_cons.1 h
    rw [List.map_cons, List.nodup_cons]
    refine ⟨fun hm => ?_, map_nodupL h'.2 (fun p hp q hq => hg p (List.mem_cons_of_mem _ hp) q (List.mem_cons_of_mem _ hq))⟩
    obtain ⟨p, hp, he⟩ := List.mem_map.1 hm
    have := hg p (List.mem_cons_of_mem _ hp) a (by simp) he
    exact h'.1 (this ▸ hp)

/-- the assignments behind a lot are not fewer, and as many if the lot has one way only -/
theorem asg_grow {f : Flow} (h0 : 0 ≤ f.senders) {k : Nat} (hl : lotsB f (k + 1) = true) :
    (asgTo f k).length ≤ (asgTo f (k + 1)).length ∧ (asgTo f (k + 1)).length ≤ (asgTo f k).length * (permsOf (lotAt f.lots k)).length := by
  have hl' : lotsB f k = true := by simp only [lotsB, Bool.and_eq_true] at hl; exact hl.1
  have hlot := lotsB_lot hl (show k < k + 1 by omega)
  have hlen : ∀ q ∈ (asgTo f k).flatMap (outsL f k), q.length = f.senders.toNat := by
    intro q hq
    obtain ⟨p, hp, hq⟩ := List.mem_flatMap.1 hq
    obtain ⟨π, _, rfl⟩ := List.mem_map.1 hq
    unfold moveL
    rw [List.length_map]
    exact asg_len k p hp
  constructor
  · obtain ⟨q0, hq0⟩ := List.exists_mem_of_ne_nil _ (asg_ne h0 (k + 1) hl)
    obtain ⟨p0, hp0, π, hπ, _⟩ := mem_asgTo.1 hq0
    have hperm := permsOf_perm hlot hπ
    have hn : ((asgTo f k).map (moveL (lotAt f.lots k).ins π (beforeI f k))).Nodup := map_nodupL (srt_nodup (asg_srt k)) (fun p hp q hq e =>
      move_inj hperm (fun x hx => ((asg_all h0 k hl' p hp).2 x).1 hx |>.2.1) (fun x hx => ((asg_all h0 k hl' q hq).2 x).1 hx |>.2.1) e)
    have := put_ge (xs := (asgTo f k).flatMap (outsL f k)) hn (fun y hy => by
      obtain ⟨p, hp, rfl⟩ := List.mem_map.1 hy
      exact List.mem_flatMap.2 ⟨p, hp, List.mem_map.2 ⟨π, hπ, rfl⟩⟩)
    rw [List.length_map] at this
    exact this
  · have h1 := put_le hlen
    have h2 : ∀ l : List (List Int), (l.flatMap (outsL f k)).length = l.length * (permsOf (lotAt f.lots k)).length := by
      intro l
      induction l with
      | nil => simp
      | cons a l ih => rw [List.flatMap_cons, List.length_append, ih, List.length_cons, Nat.add_mul, Nat.one_mul, Nat.add_comm]; simp [outsL]
    rw [h2] at h1
    exact h1

end Go.Proofs.Ythekefnocphcdaa

set_option linter.unusedVariables false

set_option linter.unusedSimpArgs false

namespace Go.Proofs.Ythekefnocphcdaa

theorem canTo_iffC (x : Lot) (spots : List Int) (k : Nat) : ∀ m, canTo x spots k m = true ↔ ∃ i, i < m ∧ nth x.ins i ∈ spots ∧ (x.known = true → nth x.perm i = (k : Int))
  | 0 => by simp [canTo]
  | m + 1 => by
    simp only [canTo, Bool.or_eq_true, Bool.and_eq_true, canTo_iffC x spots k m, hasB_mem, Bool.not_eq_true', beq_iff_eq]
    constructor
    · rintro (⟨i, h1, h2, h3⟩ | ⟨h1, h2⟩)
      · exact ⟨i, by omega, h2, h3⟩
      · refine ⟨m, by omega, h1, fun hk => ?_⟩
        rcases h2 with h2 | h2
        · rw [hk] at h2; cases h2
        · exact h2
    · rintro ⟨i, h1, h2, h3⟩
      by_cases hi : i < m
      · exact .inl ⟨i, hi, h2, h3⟩
      · obtain rfl : i = m := by omega
        refine .inr ⟨h2, ?_⟩
        cases hk : x.known with
        | false => exact .inl rfl
        | true => exact .inr (h3 hk)

theorem follTo_memC (x : Lot) (n : Int) (spots : List Int) (y : Int) : ∀ m, y ∈ follTo x n spots m ↔ y ∈ spots ∨ ∃ k : Nat, k < m ∧ y = n + k ∧ canTo x spots k x.ins.length = true
  | 0 => by simp [follTo]
  | m + 1 => by
    have ih := follTo_memC x n spots y m
    simp only [follTo]
    by_cases h : canTo x spots m x.ins.length = true
    · rw [if_pos h, List.mem_append, ih]
      constructor
      · rintro ((h1 | ⟨k, h1, h2, h3⟩) | h1)
        · exact .inl h1
        · exact .inr ⟨k, by omega, h2, h3⟩
        · exact .inr ⟨m, by omega, List.mem_singleton.1 h1, h⟩
      · rintro (h1 | ⟨k, h1, h2, h3⟩)
        · exact .inl (.inl h1)
        · by_cases hk : k < m
          · exact .inl (.inr ⟨k, hk, h2, h3⟩)
          · obtain rfl : k = m := by omega
            exact .inr (List.mem_singleton.2 h2)
    · rw [if_neg h, ih]
      constructor
      · rintro (h1 | ⟨k, h1, h2, h3⟩)
        · exact .inl h1
        · exact .inr ⟨k, by omega, h2, h3⟩
      · rintro (h1 | ⟨k, h1, h2, h3⟩)
        · exact .inl h1
        · by_cases hk : k < m
          · exact .inr ⟨k, hk, h2, h3⟩
          · obtain rfl : k = m := by omega
            exact absurd h3 h

theorem nth_move {ins π p : List Int} {n : Int} {s : Nat} (hs : s < p.length) : nth (moveL ins π n p) s = mvI ins π n (nth p s) := by
  unfold moveL nth
  rw [List.getD_eq_getElem?_getD, List.getD_eq_getElem?_getD, List.getElem?_map, List.getElem?_eq_getElem hs]
  rfl

/-- the letter of a sender is at a spot that it can reach -/
theorem asg_spots {f : Flow} (h0 : 0 ≤ f.senders) {s : Nat} (hs : (s : Int) < f.senders) : ∀ k, lotsB f k = true → ∀ p ∈ asgTo f k, nth p s ∈ spotsTo f s k
  | 0, _, p, hp => by
    obtain rfl : p = beginL f := List.mem_singleton.1 hp
    have hsl : s < f.senders.toNat := by omega
    have : nth (beginL f) s = (s : Int) := by
      unfold beginL nth
      rw [List.getD_eq_getElem?_getD, List.getElem?_map, List.getElem?_range hsl]
      rfl
    rw [this]
    simp [spotsTo]
  | k + 1, hl, p, hp => by
    have hl' : lotsB f k = true := by simp only [lotsB, Bool.and_eq_true] at hl; exact hl.1
    have hlot := lotsB_lot hl (show k < k + 1 by omega)
    obtain ⟨q, hq, π, hπ, rfl⟩ := mem_asgTo.1 hp
    have ih := asg_spots h0 hs k hl' q hq
    have hperm := permsOf_perm hlot hπ
    rw [nth_move (by rw [asg_len k q hq]; omega)]
    simp only [spotsTo]
    rw [follTo_memC]
    by_cases hin : nth q s ∈ (lotAt f.lots k).ins
    · obtain ⟨j, hj, e1, e2, e3, e4⟩ := mv_in (n := beforeI f k) hperm hin
      have hjn : ((j.toNat : Nat) : Int) = j := Int.toNat_of_nonneg e2
      refine .inr ⟨j.toNat, by omega, by rw [e1, hjn], ?_⟩
      rw [canTo_iffC]
      have hi := List.idxOf_lt_length_of_mem hin
      refine ⟨(lotAt f.lots k).ins.idxOf (nth q s), hi, ?_, fun hk => ?_⟩
      · rw [nth_lt hi, List.getElem_idxOf]; exact ih
      · have : π = (lotAt f.lots k).perm := by unfold permsOf at hπ; rw [hk] at hπ; simpa using hπ
        rw [← this, hjn, ← e4]
    · rw [mv_out hin]
      exact .inl ih

def swapN (i j a : Nat) : Nat := if a = i then j else if a = j then i else a

def swapL (m i j : Nat) : List Int := (List.range m).map fun a => ((swapN i j a : Nat) : Int)

theorem swap_perm {m i j : Nat} (hi : i < m) (hj : j < m) : permB (swapL m i j) (m : Int) = true := by
  unfold permB inB diffB swapL
  simp only [Bool.and_eq_true, decide_eq_true_eq, List.all_eq_true, List.mem_map, List.mem_range, List.length_map, List.length_range, true_and]
  refine ⟨?_, List.pairwise_map.2 (List.nodup_range.imp fun {a b} hne e => hne ?_)⟩
  · rintro x ⟨a, ha, rfl⟩
    unfold swapN
    refine ⟨by omega, ?_⟩
    split
    · omega
    · split <;> omega
  · have e' : swapN i j a = swapN i j b := by omega
    unfold swapN at e'
    repeat' split at e'
    all_goals omega

theorem swap_nth {m i j : Nat} (hi : i < m) : nth (swapL m i j) i = (j : Int) := by
  unfold swapL nth
  rw [List.getD_eq_getElem?_getD, List.getElem?_map, List.getElem?_range hi]
  simp [swapN]

/-- a spot that the letter of a sender can reach is its place in some assignment -/
theorem asg_hit {f : Flow} (h0 : 0 ≤ f.senders) {s : Nat} (hs : (s : Int) < f.senders) : ∀ k, lotsB f k = true → ∀ x, x ∈ spotsTo f s k → goneB f x k = false → ∃ p ∈ asgTo f k, nth p s = x
  | 0, _, x, hx, _ => by
    obtain rfl : x = (s : Int) := List.mem_singleton.1 hx
    refine ⟨beginL f, List.mem_singleton.2 rfl, ?_⟩
    have hsl : s < f.senders.toNat := by omega
    unfold beginL nth
    rw [List.getD_eq_getElem?_getD, List.getElem?_map, List.getElem?_range hsl]
    rfl
  | k + 1, hl, x, hx, hg => by
    have hl' : lotsB f k = true := by simp only [lotsB, Bool.and_eq_true] at hl; exact hl.1
    have hlot := lotsB_lot hl (show k < k + 1 by omega)
    obtain ⟨_, hnd, hins, hkn, _⟩ := lotB_parts hlot
    simp only [goneB, Bool.or_eq_false_iff] at hg
    simp only [spotsTo] at hx
    rw [follTo_memC] at hx
    rcases hx with hx | ⟨j, hj, rfl, hc⟩
    · obtain ⟨p, hp, hps⟩ := asg_hit h0 hs k hl' x hx hg.1
      obtain ⟨q, hq⟩ := List.exists_mem_of_ne_nil _ (asg_ne h0 (k + 1) hl)
      obtain ⟨_, _, π, hπ, _⟩ := mem_asgTo.1 hq
      refine ⟨_, mem_asgTo.2 ⟨p, hp, π, hπ, rfl⟩, ?_⟩
      rw [nth_move (by rw [asg_len k p hp]; omega), hps]
      exact mv_out (fun hm => by rw [hasB_mem.2 hm] at hg; cases hg.2)
    · obtain ⟨i, hi, hsp, hk⟩ := (canTo_iffC _ _ _ _).1 hc
      obtain ⟨p, hp, hps⟩ := asg_hit h0 hs k hl' _ hsp (hins _ (nth_mem' hi)).2.2
      have hπ : ∃ π ∈ permsOf (lotAt f.lots k), nth π i = (j : Int) := by
        unfold permsOf
        cases hkk : (lotAt f.lots k).known with
        | true => exact ⟨(lotAt f.lots k).perm, by simp, hk hkk⟩
        | false => exact ⟨swapL (lotAt f.lots k).ins.length i j, by rw [if_neg (by decide)]; exact mem_permsL.2 (swap_perm hi hj), swap_nth hi⟩
      obtain ⟨π, hπ, hπi⟩ := hπ
      refine ⟨_, mem_asgTo.2 ⟨p, hp, π, hπ, rfl⟩, ?_⟩
      rw [nth_move (by rw [asg_len k p hp]; omega), hps]
      unfold mvI
      rw [if_pos (hasB_mem.2 (nth_mem' hi))]
      have hidx : (lotAt f.lots k).ins.idxOf (nth (lotAt f.lots k).ins i) = i := by
        rw [nth_lt hi]
        exact hnd.idxOf_getElem _ hi
      rw [hidx, hπi]

end Go.Proofs.Ythekefnocphcdaa

set_option linter.unusedVariables false

set_option linter.unusedSimpArgs false

namespace Go.Proofs.Ythekefnocphcdaa

/-- one element of each row, none used twice -/
def Fits : List (List Int) → List Int → List Int → Prop
  | [], _, [] => True
  | row :: rest, used, x :: p => x ∈ row ∧ x ∉ used ∧ Fits rest (used ++ [x]) p
  | _, _, _ => False

theorem sum_monoL {g h : Int → Int} (hg : ∀ x, g x ≤ h x) : ∀ l : List Int, (l.map g).sum ≤ (l.map h).sum
  | [] => by simp
  | x :: r => by
    have := sum_monoL hg r
    have := hg x
    simp only [List.map_cons, List.sum_cons]
    omega

theorem filter_split {α : Type} (p : α → Bool) : ∀ l : List α, l.length = (l.filter p).length + (l.filter fun a => !p a).length
  | [] => rfl
  | a :: l => by
    have ih := filter_split p l
    cases h : p a <;> simp [List.filter_cons, h] <;> omega

theorem part_len {α : Type} (key : α → Int) : ∀ (row : List Int) (l : List α), (∀ a ∈ l, key a ∈ row) → (l.length : Int) ≤ (row.map fun x => (((l.filter fun a => key a == x).length : Nat) : Int)).sum
  | [], l, h => by
    cases l with
    | nil => simp
    | cons a l => have := h a (by simp); cases this
  | x :: r, l, h => by
    have ih := part_len key r (l.filter fun a => !(key a == x)) (fun a ha => by
      obtain ⟨h1, h2⟩ := List.mem_filter.1 ha
      rcases List.mem_cons.1 (h a h1) with e | e
      · rw [e] at h2; simp at h2
      · exact e)
    have hsp := filter_split (fun a => key a == x) l
    have hmono := sum_monoL (g := fun y => ((((l.filter fun a => !(key a == x)).filter fun a => key a == y).length : Nat) : Int)) (h := fun y => (((l.filter fun a => key a == y).length : Nat) : Int)) (fun y => by
      have : ((l.filter fun a => !(key a == x)).filter fun a => key a == y).length ≤ (l.filter fun a => key a == y).length :=
        (List.Sublist.filter _ List.filter_sublist).length_le
      omega) r
    simp only [List.map_cons, List.sum_cons]
    omega

theorem tails_nodup {x : Int} : ∀ {l : List (List Int)}, l.Nodup → (∀ p ∈ l, ∃ t, p = x :: t) → (l.map List.tail).Nodup := fun {l} hn h =>
  map_nodupL hn (fun p hp q hq e => by
    obtain ⟨t, rfl⟩ := h p hp
    obtain ⟨u, rfl⟩ := h q hq
    simp at e
    rw [e])

theorem fits_of : ∀ (rows : List (List Int)) (used p : List Int), p.length = rows.length → p.Nodup → (∀ x ∈ p, x ∉ used) → (∀ i, i < rows.length → nth p i ∈ rows.getD i []) → Fits rows used p
  | [], used, [], _, _, _, _ => trivial
  | [], used, x :: p, h, _, _, _ => by simp at h
  | row :: rest, used, [], h, _, _, _ => by simp at h
  | row :: rest, used, x :: p, h, hn, hu, hr => by
    have hn' := List.nodup_cons.1 hn
    refine ⟨by simpa [nth] using hr 0 (by simp), hu x (by simp), fits_of rest _ p (by simpa using h) hn'.2 (fun y hy hm => ?_) (fun i hi => by simpa [nth] using hr (i + 1) (by simpa using hi))⟩
    rcases List.mem_append.1 hm with hm | hm
    · exact hu y (List.mem_cons_of_mem _ hy) hm
    · obtain rfl := List.mem_singleton.1 hm
      exact hn'.1 hy

end Go.Proofs.Ythekefnocphcdaa

set_option linter.unusedVariables false

set_option linter.unusedSimpArgs false

namespace Go.Proofs.Ythekefnocphcdaa

theorem fits_le : ∀ (rows : List (List Int)) (used : List Int) (P : List (List Int)), P.Nodup → (∀ p ∈ P, Fits rows used p) → (P.length : Int) ≤ waysS rows used
  | [], used, P, hn, h => by
    have : P.length ≤ [([] : List Int)].length := nodup_lenG hn (fun p hp => by
      have := h p hp
      cases p with
      | nil => simp
      | cons a p => exact this.elim)
    simp only [List.length_cons, List.length_nil] at this
    show (P.length : Int) ≤ 1
    omega
  | row :: rest, used, P, hn, h => by
    have hk : ∀ p ∈ P, p.headD 0 ∈ row := fun p hp => by
      have := h p hp
      cases p with
      | nil => exact this.elim
      | cons a p => exact this.1
    refine Int.le_trans (part_len (fun p : List Int => p.headD 0) row P hk) ?_
    simp only [waysS]
    refine sum_monoL (fun x => ?_) row
    have hx : ∀ p ∈ P.filter (fun p => p.headD 0 == x), ∃ t, p = x :: t := fun p hp => by
      obtain ⟨h1, h2⟩ := List.mem_filter.1 hp
      have := h p h1
      cases p with
      | nil => exact this.elim
      | cons a p => exact ⟨p, by simp at h2; rw [h2]⟩
    have hnf : (P.filter (fun p => p.headD 0 == x)).Nodup := List.Nodup.sublist List.filter_sublist hn
    by_cases hu : hasB used x = true
    · rw [if_pos hu]
      have : P.filter (fun p => p.headD 0 == x) = [] := by
        cases e : P.filter (fun p => p.headD 0 == x) with
        | nil => rfl
        | cons q l =>
          obtain ⟨t, ht⟩ := hx q (by rw [e]; simp)
          have hq := h q (List.mem_filter.1 (by rw [e]; exact List.mem_cons_self .. : q ∈ P.filter (fun p => p.headD 0 == x))).1
          rw [ht] at hq
          exact absurd (hasB_mem.1 hu) hq.2.1
      rw [this]
      simp
    · rw [if_neg hu]
      have ih := fits_le rest (used ++ [x]) ((P.filter (fun p => p.headD 0 == x)).map List.tail) (tails_nodup hnf hx) (fun t ht => by
        obtain ⟨q, hq, rfl⟩ := List.mem_map.1 ht
        obtain ⟨u, hu'⟩ := hx q hq
        have := h q (List.mem_filter.1 hq).1
        rw [hu'] at this ⊢
        exact this.2.2)
      rw [List.length_map] at ih
      exact ih

end Go.Proofs.Ythekefnocphcdaa

set_option linter.unusedVariables false

set_option linter.unusedSimpArgs false

namespace Go.Proofs.Ythekefnocphcdaa

theorem unk_unborn {f : Flow} {m : Nat} (h : lotsB f m = true) {s : Int} (hs : beforeI f (m - 1) ≤ s) : unkTo f s m < 0 := by
  have := unkTo_stay' (f := f) (s := s) (k := 0) (m := m) (Nat.zero_le _) (fun j _ hj => by
    show hasB (lotAt f.lots j).ins s = false
    cases hh : hasB (lotAt f.lots j).ins s
    · rfl
    · have h1 := ins_lt h hj hh
      have h2 := beforeI_mono (f := f) (show j ≤ m - 1 by omega)
      omega) (by simp [unkTo])
  omega

/-- behind m lots a letter is where known lots lead it, from its sender or from the last unknown lot -/
def LastAt (f : Flow) (p : List Int) (m s : Nat) : Prop :=
  (unkTo f s m < 0 → nth p s = spotAt f s m) ∧
  (0 ≤ unkTo f s m → ∃ j i : Nat, j < m ∧ (lotAt f.lots j).known = false ∧ i < (lotAt f.lots j).ins.length ∧ nth p s = spotAt f (beforeI f j + i) m ∧ unkTo f (beforeI f j + i) m < 0)

theorem last_step {f : Flow} {k : Nat} (hl : lotsB f (k + 1) = true) {π : List Int} (hπ : π ∈ permsOf (lotAt f.lots k)) {t x : Int} (hx : x = spotAt f t k) (hu : unkTo f t k < 0) :
    (unkTo f t (k + 1) < 0 ∧ mvI (lotAt f.lots k).ins π (beforeI f k) x = spotAt f t (k + 1)) ∨
    (unkTo f t (k + 1) = k ∧ (lotAt f.lots k).known = false ∧ ∃ i : Nat, i < (lotAt f.lots k).ins.length ∧ mvI (lotAt f.lots k).ins π (beforeI f k) x = spotAt f (beforeI f k + i) (k + 1) ∧ unkTo f (beforeI f k + i) (k + 1) < 0) := by
  have hlot := lotsB_lot hl (show k < k + 1 by omega)
  have hperm := permsOf_perm hlot hπ
  by_cases hin : x ∈ (lotAt f.lots k).ins
  · have hb : hasB (lotAt f.lots k).ins (spotAt f t k) = true := by rw [← hx]; exact hasB_mem.2 hin
    obtain ⟨j, hj, e1, e2, e3, e4⟩ := mv_in (n := beforeI f k) hperm hin
    cases hk : (lotAt f.lots k).known with
    | true =>
      refine .inl ⟨?_, ?_⟩
      · simp only [unkTo]
        rw [if_neg (by omega), hb, hk]
        simp
      · have hπe : π = (lotAt f.lots k).perm := by unfold permsOf at hπ; rw [hk] at hπ; simpa using hπ
        simp only [spotAt]
        rw [if_pos hb, e1, e4, hπe, hx]
    | false =>
      have hjn : ((j.toNat : Nat) : Int) = j := Int.toNat_of_nonneg e2
      refine .inr ⟨?_, rfl, j.toNat, by omega, ?_, ?_⟩
      · simp only [unkTo]
        rw [if_neg (by omega), hb, hk]
        simp
      · rw [spotAt_unborn hl (by simp only [Nat.add_sub_cancel]; omega), hjn, e1]
      · exact unk_unborn hl (by simp only [Nat.add_sub_cancel]; omega)
  · have hb : hasB (lotAt f.lots k).ins (spotAt f t k) = false := by
      cases h : hasB (lotAt f.lots k).ins (spotAt f t k) with
      | false => rfl
      | true => rw [← hx] at h; exact absurd (hasB_mem.1 h) hin
    refine .inl ⟨?_, ?_⟩
    · simp only [unkTo]
      rw [if_neg (by omega), hb]
      simp
    · simp only [spotAt]
      rw [hb, mv_out hin, hx]
      simp

theorem asg_last {f : Flow} (h0 : 0 ≤ f.senders) {s : Nat} (hs : (s : Int) < f.senders) : ∀ m, lotsB f m = true → ∀ p ∈ asgTo f m, LastAt f p m s
  | 0, _, p, hp => by
    obtain rfl : p = beginL f := List.mem_singleton.1 hp
    refine ⟨fun _ => ?_, fun h => by simp [unkTo] at h⟩
    have hsl : s < f.senders.toNat := by omega
    unfold beginL nth
    rw [List.getD_eq_getElem?_getD, List.getElem?_map, List.getElem?_range hsl]
    rfl
  | k + 1, hl, p, hp => by
    have hl' : lotsB f k = true := by simp only [lotsB, Bool.and_eq_true] at hl; exact hl.1
    obtain ⟨q, hq, π, hπ, rfl⟩ := mem_asgTo.1 hp
    have ih := asg_last h0 hs k hl' q hq
    have hn := nth_move (ins := (lotAt f.lots k).ins) (π := π) (n := beforeI f k) (show s < q.length by rw [asg_len k q hq]; omega)
    by_cases hu : unkTo f s k < 0
    · rcases last_step hl hπ (ih.1 hu) hu with ⟨a, b⟩ | ⟨a, hk, i, hi, b, c⟩
      · exact ⟨fun _ => by rw [hn, b], fun h => by omega⟩
      · exact ⟨fun h => by omega, fun _ => ⟨k, i, by omega, hk, hi, by rw [hn, b], c⟩⟩
    · have hst := unkTo_stay (f := f) (s := s) (k := k) (m := k + 1) (by omega) (by omega)
      obtain ⟨j, i, hj, hkj, hi, e, hn'⟩ := ih.2 (by omega)
      refine ⟨fun h => by omega, fun _ => ?_⟩
      rcases last_step hl hπ e hn' with ⟨a, b⟩ | ⟨a, hk, i', hi', b, c⟩
      · exact ⟨j, i, by omega, hkj, hi, by rw [hn, b], a⟩
      · exact ⟨k, i', by omega, hk, hi', by rw [hn, b], c⟩

theorem first_fixed {f : Flow} (h0 : 0 ≤ f.senders) (hl : lotsB f f.lots.length = true) {k : Nat} (hk : k < f.lots.length) (hf : firstB f k = true) (hkn : (lotAt f.lots k).known = false)
    {p : List Int} (hp : p ∈ asgTo f k) {s : Nat} (hs : (s : Int) < f.senders) (hin : nth p s ∈ (lotAt f.lots k).ins) : unkTo f s k < 0 ∧ nth p s = spotAt f s k := by
  have hL := asg_last h0 hs k (lotsB_le hl (by omega)) p hp
  by_cases hu : unkTo f s k < 0
  · exact ⟨hu, hL.1 hu⟩
  · obtain ⟨j, i, hj, hkj, hi, e, hn⟩ := hL.2 (by omega)
    have h1 : unkTo f (beforeI f j + i) (k + 1) = k := by
      simp only [unkTo]
      rw [if_neg (by omega), ← e, hasB_mem.2 hin, hkn]
      simp
    have h2 : unkI f (beforeI f j + i) = k := by
      unfold unkI
      rw [unkTo_stay (k := k + 1) (by rw [h1]; omega) (by omega), h1]
    have h3 : hitTo f k k = false := by unfold firstB at hf; simpa using hf
    exact absurd h2 (comesTo_not _ (hitTo_not k h3 j hj hkj) i hi)

theorem ext_nth {p q : List Int} (h : p.length = q.length) (he : ∀ s, s < p.length → nth p s = nth q s) : p = q := by
  refine List.ext_getElem h (fun i h1 h2 => ?_)
  have := he i h1
  rw [nth_lt h1, nth_lt h2] at this
  exact this

theorem first_inj {f : Flow} (h0 : 0 ≤ f.senders) (hl : lotsB f f.lots.length = true) {k : Nat} (hk : k < f.lots.length) (hf : firstB f k = true) (hkn : (lotAt f.lots k).known = false)
    {p q π ρ : List Int} (hp : p ∈ asgTo f k) (hq : q ∈ asgTo f k) (hπ : π ∈ permsL (lotAt f.lots k).ins.length) (hρ : ρ ∈ permsL (lotAt f.lots k).ins.length)
    (he : moveL (lotAt f.lots k).ins π (beforeI f k) p = moveL (lotAt f.lots k).ins ρ (beforeI f k) q) : p = q ∧ π = ρ := by
  have hlen := asg_len k p hp
  have hlen' := asg_len k q hq
  have hl' := lotsB_le hl (show k ≤ f.lots.length by omega)
  have hat : ∀ s, s < p.length → mvI (lotAt f.lots k).ins π (beforeI f k) (nth p s) = mvI (lotAt f.lots k).ins ρ (beforeI f k) (nth q s) := fun s hs => by
    rw [← nth_move hs, ← nth_move (by omega), he]
  have hpq : p = q := by
    refine ext_nth (by omega) (fun s hs => ?_)
    have hs' : (s : Int) < f.senders := by omega
    by_cases h1 : nth p s ∈ (lotAt f.lots k).ins
    · obtain ⟨hu, e⟩ := first_fixed h0 hl hk hf hkn hp hs' h1
      rw [e, (asg_last h0 hs' k hl' q hq).1 hu]
    · by_cases h2 : nth q s ∈ (lotAt f.lots k).ins
      · obtain ⟨hu, e⟩ := first_fixed h0 hl hk hf hkn hq hs' h2
        rw [e, (asg_last h0 hs' k hl' p hp).1 hu]
      · have := hat s hs
        rw [mv_out h1, mv_out h2] at this
        exact this
  subst hpq
  refine ⟨rfl, ?_⟩
  obtain ⟨_, l1, _⟩ := permB_parts (mem_permsL.1 hπ)
  obtain ⟨_, l2, _⟩ := permB_parts (mem_permsL.1 hρ)
  obtain ⟨_, hnd, hins, _⟩ := lotB_parts (lotsB_lot hl hk)
  refine ext_nth (by omega) (fun i hi => ?_)
  have hi' : i < (lotAt f.lots k).ins.length := by omega
  have hx := hins _ (nth_mem' hi')
  have hm := ((asg_all h0 k hl' p hp).2 _).2 hx
  have hs := List.idxOf_lt_length_of_mem hm
  have e := hat _ hs
  have ex : nth p (p.idxOf (nth (lotAt f.lots k).ins i)) = nth (lotAt f.lots k).ins i := by rw [nth_lt hs, List.getElem_idxOf]
  rw [ex] at e
  unfold mvI at e
  rw [if_pos (hasB_mem.2 (nth_mem' hi')), if_pos (hasB_mem.2 (nth_mem' hi'))] at e
  have hidx : (lotAt f.lots k).ins.idxOf (nth (lotAt f.lots k).ins i) = i := by
    rw [nth_lt hi']
    exact hnd.idxOf_getElem _ hi'
  rw [hidx] at e
  omega

def facN : Nat → Nat
  | 0 => 1
  | n + 1 => (n + 1) * facN n

theorem facN_pos : ∀ n, 1 ≤ facN n
  | 0 => Nat.le_refl _
  | n + 1 => by
    have := facN_pos n
    simp only [facN]
    exact Nat.mul_le_mul (show 1 ≤ n + 1 by omega) this

theorem len_flat_if {α β : Type} {c : α → Bool} {G : α → List β} {v : Nat} : ∀ {l : List α}, (∀ x ∈ l, c x = false → (G x).length = v) → (l.flatMap fun x => if c x then [] else G x).length = (l.filter fun x => !c x).length * v
  | [], _ => by simp
  | a :: l, h => by
    have ih := len_flat_if (c := c) (G := G) (v := v) (l := l) (fun x hx => h x (List.mem_cons_of_mem _ hx))
    rw [List.flatMap_cons, List.length_append, ih, List.filter_cons]
    cases hc : c a with
    | true => simp
    | false =>
      have := h a (by simp) hc
      simp only [Bool.false_eq_true, if_false, Bool.not_false, if_true, List.length_cons]
      rw [this, Nat.add_mul, Nat.one_mul, Nat.add_comm]

theorem not_in_len {n : Nat} {b : List Int} (hb : Begins n b) : ((List.range n).filter fun (x : Nat) => !hasB b (x : Int)).length + b.length = n := by
  have h1 := filter_split (fun (x : Nat) => hasB b (x : Int)) (List.range n)
  rw [List.length_range] at h1
  have h2 : ((List.range n).filter fun (x : Nat) => hasB b (x : Int)).length = b.length := by
    have e : (((List.range n).filter fun (x : Nat) => hasB b (x : Int)).map Int.ofNat).length = ((List.range n).filter fun (x : Nat) => hasB b (x : Int)).length := List.length_map ..
    have hn : (((List.range n).filter fun (x : Nat) => hasB b (x : Int)).map Int.ofNat).Nodup :=
      List.pairwise_map.2 ((List.Nodup.sublist List.filter_sublist List.nodup_range).imp fun {a c} hne e => hne (by have e' : (a : Int) = (c : Int) := e; omega))
    have a1 := nodup_len hn (m := b) (fun x hx => by
      obtain ⟨y, hy, rfl⟩ := List.mem_map.1 hx
      exact hasB_mem.1 (List.mem_filter.1 hy).2)
    have a2 := nodup_len hb.1 (m := ((List.range n).filter fun (x : Nat) => hasB b (x : Int)).map Int.ofNat) (fun x hx => by
      have := hb.2 x hx
      have hxn : ((x.toNat : Nat) : Int) = x := Int.toNat_of_nonneg this.1
      exact List.mem_map.2 ⟨x.toNat, List.mem_filter.2 ⟨List.mem_range.2 (by omega), by rw [hxn]; exact hasB_mem.2 hx⟩, hxn⟩)
    omega
  omega

theorem permsF_len {n : Nat} : ∀ (f : Nat) (b : List Int), Begins n b → b.length + f = n → (permsF n f b).length = facN f
  | 0, b, _, _ => rfl
  | f + 1, b, hb, hf => by
    have h2 := not_in_len hb
    simp only [permsF]
    rw [len_flat_if (v := facN f) (fun x hx hc => permsF_len f _ (by
      have hnb : (x : Int) ∉ b := fun hm => by rw [hasB_mem.2 hm] at hc; cases hc
      refine ⟨List.nodup_append.2 ⟨hb.1, by simp, fun y hy z hz e => ?_⟩, fun y hy => ?_⟩
      · obtain rfl := List.mem_singleton.1 hz
        subst e
        exact hnb hy
      · rcases List.mem_append.1 hy with hy | hy
        · exact hb.2 y hy
        · obtain rfl := List.mem_singleton.1 hy
          have := List.mem_range.1 hx
          omega) (by simp; omega))]
    simp only [facN]
    congr 1
    omega

theorem permsL_len (n : Nat) : (permsL n).length = facN n := permsF_len n [] ⟨List.nodup_nil, fun x h => by cases h⟩ (by simp)

theorem permsF_nodup {n : Nat} : ∀ (f : Nat) (b : List Int), Begins n b → (permsF n f b).Nodup
  | 0, b, _ => by simp [permsF]
  | f + 1, b, hb => by
    simp only [permsF]
    have hbx : ∀ x, x ∈ List.range n → hasB b (x : Int) = false → Begins n (b ++ [(x : Int)]) := fun x hx hc => by
      have hnb : (x : Int) ∉ b := fun hm => by rw [hasB_mem.2 hm] at hc; cases hc
      refine ⟨List.nodup_append.2 ⟨hb.1, by simp, fun y hy z hz e => ?_⟩, fun y hy => ?_⟩
      · obtain rfl := List.mem_singleton.1 hz
        subst e
        exact hnb hy
      · rcases List.mem_append.1 hy with hy | hy
        · exact hb.2 y hy
        · obtain rfl := List.mem_singleton.1 hy
          have := List.mem_range.1 hx
          omega
    unfold List.Nodup
    rw [List.pairwise_flatMap]
    refine ⟨fun x hx => ?_, List.nodup_range.imp_of_mem fun {x y} hx hy hne p hp q hq e => ?_⟩
    · cases hc : hasB b (x : Int) with
      | true => simp
      | false =>
        rw [if_neg (by decide)]
        exact permsF_nodup f _ (hbx x hx hc)
    · subst e
      cases hc : hasB b (x : Int) with
      | true => rw [hc] at hp; simp at hp
      | false =>
        cases hd : hasB b (y : Int) with
        | true => rw [hd] at hq; simp at hq
        | false =>
          rw [hc] at hp
          rw [hd] at hq
          simp only [Bool.false_eq_true, if_false] at hp hq
          obtain ⟨r, e1, _⟩ := (mem_permsF f _ (hbx x hx hc)).1 hp
          obtain ⟨t, e2, _⟩ := (mem_permsF f _ (hbx y hy hd)).1 hq
          rw [e1] at e2
          simp only [List.append_assoc, List.append_cancel_left_eq, List.singleton_append, List.cons.injEq] at e2
          exact hne (by omega)

theorem permsL_nodup (n : Nat) : (permsL n).Nodup := permsF_nodup n [] ⟨List.nodup_nil, fun x h => by cases h⟩

theorem asg_first {f : Flow} (h0 : 0 ≤ f.senders) (hl : lotsB f f.lots.length = true) {k : Nat} (hk : k < f.lots.length) (hf : firstB f k = true) (hkn : (lotAt f.lots k).known = false) :
    (asgTo f k).length * facN (lotAt f.lots k).ins.length ≤ (asgTo f (k + 1)).length := by
  have hpo : permsOf (lotAt f.lots k) = permsL (lotAt f.lots k).ins.length := by unfold permsOf; rw [hkn]; rfl
  have hn : ((asgTo f k).flatMap (outsL f k)).Nodup := by
    unfold List.Nodup
    rw [List.pairwise_flatMap]
    refine ⟨fun p hp => ?_, (srt_nodup (asg_srt k)).imp_of_mem fun {p q} hp hq hne x hx y hy e => ?_⟩
    · unfold outsL
      rw [hpo]
      exact map_nodupL (permsL_nodup _) (fun π hπ ρ hρ e => (first_inj h0 hl hk hf hkn hp hp hπ hρ e).2)
    · subst e
      unfold outsL at hx hy
      rw [hpo] at hx hy
      obtain ⟨π, hπ, e1⟩ := List.mem_map.1 hx
      obtain ⟨ρ, hρ, e2⟩ := List.mem_map.1 hy
      exact hne (first_inj h0 hl hk hf hkn hp hq hπ hρ (by rw [e1, e2])).1
  have := put_ge (xs := (asgTo f k).flatMap (outsL f k)) hn (fun y hy => hy)
  have h2 : ∀ l : List (List Int), (l.flatMap (outsL f k)).length = l.length * facN (lotAt f.lots k).ins.length := by
    intro l
    induction l with
    | nil => simp
    | cons a l ih => rw [List.flatMap_cons, List.length_append, ih, List.length_cons, Nat.add_mul, Nat.one_mul, Nat.add_comm]; simp [outsL, hpo, permsL_len]
  rw [h2] at this
  exact this

/-- the product of the factorials of the sizes of those of the first m lots that are in a list -/
def lowN (f : Flow) (l : List Int) : Nat → Nat
  | 0 => 1
  | m + 1 => if hasB l (m : Int) then lowN f l m * facN (lotAt f.lots m).ins.length else lowN f l m

theorem low_first {f : Flow} (h0 : 0 ≤ f.senders) (hl : lotsB f f.lots.length = true) {l : List Int} (hF : ∀ k : Nat, (k : Int) ∈ l → firstB f k = true ∧ (lotAt f.lots k).known = false) : ∀ m, m ≤ f.lots.length → lowN f l m ≤ (asgTo f m).length
  | 0, _ => by simp [lowN, asgTo]
  | m + 1, hm => by
    have ih := low_first h0 hl hF m (by omega)
    simp only [lowN]
    by_cases h : hasB l (m : Int) = true
    · rw [if_pos h]
      obtain ⟨a, b⟩ := hF m (hasB_mem.1 h)
      exact Nat.le_trans (Nat.mul_le_mul_right _ ih) (asg_first h0 hl (by omega) a b)
    · rw [if_neg h]
      exact Nat.le_trans ih (asg_grow h0 (lotsB_le hl hm)).1

end Go.Proofs.Ythekefnocphcdaa

set_option linter.unusedVariables false

set_option linter.unusedSimpArgs false

namespace Go.Proofs.Ythekefnocphcdaa

/-- the same senders and lots; what is known may differ -/
structure Like (f g : Flow) : Prop where
  snd : g.senders = f.senders
  len : g.lots.length = f.lots.length
  ins : ∀ j, (lotAt g.lots j).ins = (lotAt f.lots j).ins

theorem Like.before {f g : Flow} (h : Like f g) : ∀ k, beforeI g k = beforeI f k
  | 0 => h.snd
  | k + 1 => by simp only [beforeI, h.before k, h.ins]

theorem Like.gone {f g : Flow} (h : Like f g) (x : Int) : ∀ k, goneB g x k = goneB f x k
  | 0 => rfl
  | k + 1 => by simp only [goneB, h.gone x k, h.ins]

theorem Like.start {f g : Flow} (h : Like f g) : beginL g = beginL f := by unfold beginL; rw [h.snd]

/-- fewer permutations, fewer assignments -/
theorem asg_sub {f g : Flow} (h : Like f g) : ∀ m, (∀ k, k < m → ∀ π ∈ permsOf (lotAt g.lots k), π ∈ permsOf (lotAt f.lots k)) → ∀ p ∈ asgTo g m, p ∈ asgTo f m
  | 0, _, p, hp => by
    obtain rfl : p = beginL g := List.mem_singleton.1 hp
    rw [h.start]
    exact List.mem_singleton.2 rfl
  | m + 1, hs, p, hp => by
    obtain ⟨q, hq, π, hπ, rfl⟩ := mem_asgTo.1 hp
    rw [h.ins, h.before]
    exact mem_asgTo.2 ⟨q, asg_sub h m (fun k hk => hs k (by omega)) q hq, π, hs m (by omega) π hπ, rfl⟩

theorem asg_le {f g : Flow} (h : Like f g) {m : Nat} (hs : ∀ k, k < m → ∀ π ∈ permsOf (lotAt g.lots k), π ∈ permsOf (lotAt f.lots k)) : (asgTo g m).length ≤ (asgTo f m).length :=
  nodup_lenG (srt_nodup (asg_srt m)) (asg_sub h m hs)

def idL (n : Nat) : List Int := (List.range n).map Int.ofNat

theorem idL_perm (n : Nat) : permB (idL n) (n : Int) = true := by
  unfold permB inB diffB idL
  simp only [Bool.and_eq_true, decide_eq_true_eq, List.all_eq_true, List.mem_map, List.mem_range, List.length_map, List.length_range, true_and]
  refine ⟨?_, List.pairwise_map.2 (List.nodup_range.imp fun {a b} hne e => hne (by have e' : (a : Int) = (b : Int) := e; omega))⟩
  rintro x ⟨a, ha, rfl⟩
  exact ⟨by simp, by simp; omega⟩

def fixLot (l : List Int) (j : Nat) (x : Lot) : Lot := if x.known || hasB l (j : Int) then x else { x with known := true, perm := idL x.ins.length }

def fixF (f : Flow) (l : List Int) : Flow := { f with lots := f.lots.mapIdx (fixLot l) }

theorem fix_len (f : Flow) (l : List Int) : (fixF f l).lots.length = f.lots.length := by unfold fixF; simp

theorem fix_at {f : Flow} {l : List Int} {j : Nat} (hj : j < f.lots.length) : lotAt (fixF f l).lots j = fixLot l j (lotAt f.lots j) := by
  unfold fixF lotAt
  simp only
  rw [List.getD_eq_getElem?_getD, List.getD_eq_getElem?_getD, List.getElem?_mapIdx, List.getElem?_eq_getElem hj]
  rfl

theorem fixLot_ins (l : List Int) (j : Nat) (x : Lot) : (fixLot l j x).ins = x.ins := by unfold fixLot; split <;> rfl

theorem fix_like (f : Flow) (l : List Int) : Like f (fixF f l) := by
  refine ⟨rfl, fix_len f l, fun j => ?_⟩
  by_cases hj : j < f.lots.length
  · rw [fix_at hj, fixLot_ins]
  · unfold fixF lotAt
    simp only
    rw [List.getD_eq_getElem?_getD, List.getD_eq_getElem?_getD, List.getElem?_eq_none (by simp; omega), List.getElem?_eq_none (by omega)]

theorem fix_known {f : Flow} {l : List Int} {j : Nat} (hj : j < f.lots.length) (hk : (lotAt f.lots j).known = true) : lotAt (fixF f l).lots j = lotAt f.lots j := by
  rw [fix_at hj]
  unfold fixLot
  rw [hk]
  rfl

theorem fix_in {f : Flow} {l : List Int} {j : Nat} (hj : j < f.lots.length) (hk : (j : Int) ∈ l) : lotAt (fixF f l).lots j = lotAt f.lots j := by
  rw [fix_at hj]
  unfold fixLot
  rw [hasB_mem.2 hk, Bool.or_true, if_pos rfl]

theorem fix_open {f : Flow} {l : List Int} {j : Nat} (hj : j < f.lots.length) (hk : (lotAt (fixF f l).lots j).known = false) : (j : Int) ∈ l ∧ (lotAt f.lots j).known = false := by
  rw [fix_at hj] at hk
  unfold fixLot at hk
  split at hk
  · rename_i h
    refine ⟨?_, hk⟩
    rw [hk, Bool.false_or] at h
    exact hasB_mem.1 h
  · cases hk

theorem fix_perms {f : Flow} {l : List Int} {j : Nat} (hj : j < f.lots.length) : ∀ π ∈ permsOf (lotAt (fixF f l).lots j), π ∈ permsOf (lotAt f.lots j) := by
  intro π hπ
  rw [fix_at hj] at hπ
  unfold fixLot at hπ
  split at hπ
  · exact hπ
  · rename_i h
    have hk : (lotAt f.lots j).known = false := by
      cases hk : (lotAt f.lots j).known with
      | false => rfl
      | true => rw [hk] at h; simp at h
    have : π = idL (lotAt f.lots j).ins.length := by simpa [permsOf] using hπ
    rw [this]
    unfold permsOf
    rw [hk]
    exact mem_permsL.2 (idL_perm _)

theorem fix_lotB {f : Flow} {l : List Int} {j : Nat} (hj : j < f.lots.length) (h : lotB f j = true) : lotB (fixF f l) j = true := by
  have hL := fix_like f l
  unfold lotB at h ⊢
  simp only [hL.before, hL.gone, hL.ins] at h ⊢
  simp only [Bool.and_eq_true] at h ⊢
  refine ⟨h.1, ?_⟩
  have h2 := h.2
  rw [fix_at hj]
  unfold fixLot
  split
  · exact h2
  · simpa using idL_perm _

theorem fix_lotsB {f : Flow} {l : List Int} : ∀ m, m ≤ f.lots.length → lotsB f m = true → lotsB (fixF f l) m = true
  | 0, _, _ => rfl
  | m + 1, hm, h => by
    simp only [lotsB, Bool.and_eq_true] at h ⊢
    exact ⟨fix_lotsB m (by omega) h.1, fix_lotB (by omega) h.2⟩

theorem fix_follow {f : Flow} {l : List Int} {t : Int} : ∀ m, m ≤ f.lots.length → unkTo f t m < 0 → spotAt (fixF f l) t m = spotAt f t m ∧ unkTo (fixF f l) t m < 0
  | 0, _, _ => ⟨rfl, by simp [unkTo]⟩
  | m + 1, hm, h => by
    obtain ⟨h1, h2⟩ := unkTo_neg h
    obtain ⟨e, n⟩ := fix_follow m (by omega) h1
    have hL := fix_like f l
    constructor
    · simp only [spotAt]
      rw [e, hL.ins, hL.before]
      by_cases hh : hasB (lotAt f.lots m).ins (spotAt f t m) = true
      · rw [if_pos hh, if_pos hh, fix_known (by omega) (h2 hh)]
      · rw [if_neg hh, if_neg hh]
    · simp only [unkTo]
      rw [if_neg (by omega), e, hL.ins]
      by_cases hh : hasB (lotAt f.lots m).ins (spotAt f t m) = true
      · rw [fix_known (by omega) (h2 hh), h2 hh, hh]; simp
      · cases hb : hasB (lotAt f.lots m).ins (spotAt f t m) with
        | false => simp
        | true => exact absurd hb hh

theorem comesTo_none {f : Flow} {m k : Nat} : ∀ n, (∀ i : Nat, i < n → unkI f (beforeI f k + i) ≠ (m : Int)) → comesTo f m k n = false
  | 0, _ => rfl
  | n + 1, h => by
    simp only [comesTo, comesTo_none n (fun i hi => h i (by omega)), Bool.false_or]
    have := h n (by omega)
    simpa using this

theorem hitTo_none {f : Flow} {m : Nat} : ∀ k, (∀ j, j < k → (lotAt f.lots j).known = false → comesTo f m j (lotAt f.lots j).ins.length = false) → hitTo f m k = false
  | 0, _ => rfl
  | k + 1, h => by
    simp only [hitTo, hitTo_none k (fun j hj => h j (by omega)), Bool.false_or]
    cases hk : (lotAt f.lots k).known with
    | true => rfl
    | false => rw [h k (by omega) hk]; rfl

theorem low_like {f g : Flow} (h : Like f g) (l : List Int) : ∀ m, lowN g l m = lowN f l m
  | 0 => rfl
  | m + 1 => by simp only [lowN, low_like h l m, h.ins]

theorem low_last {f : Flow} (h0 : 0 ≤ f.senders) (hl : lotsB f f.lots.length = true) {l : List Int} (hL : ∀ x ∈ l, 0 ≤ x ∧ x < f.lots.length) (hF : ∀ k : Nat, (k : Int) ∈ l → lastB f k = true ∧ (lotAt f.lots k).known = false) : lowN f l f.lots.length ≤ (asgL f).length := by
  have hlike := fix_like f l
  have hlen := fix_len f l
  have hlg : lotsB (fixF f l) (fixF f l).lots.length = true := by rw [hlen]; exact fix_lotsB _ (Nat.le_refl _) hl
  have h1 := low_first (f := fixF f l) (by rw [hlike.snd]; exact h0) hlg (l := l) (fun k hk => by
    have hkr := hL _ hk
    have hkl : k < f.lots.length := by omega
    refine ⟨?_, by rw [fix_in hkl hk]; exact (hF k hk).2⟩
    unfold firstB
    rw [hitTo_none k (fun j hj hjk => ?_)]
    · rfl
    · obtain ⟨hjl, hju⟩ := fix_open (by omega) hjk
      refine comesTo_none _ (fun i hi => ?_)
      rw [hlike.ins] at hi
      have hla := (hF j hjl).1
      unfold lastB at hla
      have hneg := lastTo_all _ hla i hi
      unfold unkI at hneg ⊢
      rw [hlike.before, hlen]
      have := (fix_follow (l := l) _ (Nat.le_refl _) hneg).2
      omega) (fixF f l).lots.length (Nat.le_refl _)
  rw [hlen, low_like hlike] at h1
  exact Nat.le_trans h1 (asg_le hlike (fun k hk => fix_perms hk))

theorem mem_lastL {f : Flow} {x : Int} : ∀ {m : Nat}, x ∈ lastL f m ↔ ∃ k : Nat, k < m ∧ x = k ∧ (lotAt f.lots k).known = false ∧ lastB f k = true
  | 0 => by simp [lastL]
  | m + 1 => by
    simp only [lastL]
    by_cases h : (!(lotAt f.lots m).known && lastB f m) = true
    · rw [if_pos h, List.mem_append, mem_lastL (m := m)]
      simp only [Bool.and_eq_true, Bool.not_eq_true'] at h
      constructor
      · rintro (⟨k, a, b⟩ | e)
        · exact ⟨k, by omega, b⟩
        · exact ⟨m, by omega, List.mem_singleton.1 e, h.1, h.2⟩
      · rintro ⟨k, a, b, c⟩
        by_cases e : k < m
        · exact .inl ⟨k, e, b, c⟩
        · obtain rfl : k = m := by omega
          exact .inr (List.mem_singleton.2 b)
    · rw [if_neg h, mem_lastL (m := m)]
      constructor
      · rintro ⟨k, a, b⟩; exact ⟨k, by omega, b⟩
      · rintro ⟨k, a, b, c, d⟩
        by_cases e : k < m
        · exact ⟨k, e, b, c, d⟩
        · obtain rfl : k = m := by omega
          exact absurd (by rw [c, d]; rfl) h

theorem mem_firstL {f : Flow} {x : Int} : ∀ {m : Nat}, x ∈ firstL f m ↔ ∃ k : Nat, k < m ∧ x = k ∧ (lotAt f.lots k).known = false ∧ firstB f k = true
  | 0 => by simp [firstL]
  | m + 1 => by
    simp only [firstL]
    by_cases h : (!(lotAt f.lots m).known && firstB f m) = true
    · rw [if_pos h, List.mem_append, mem_firstL (m := m)]
      simp only [Bool.and_eq_true, Bool.not_eq_true'] at h
      constructor
      · rintro (⟨k, a, b⟩ | e)
        · exact ⟨k, by omega, b⟩
        · exact ⟨m, by omega, List.mem_singleton.1 e, h.1, h.2⟩
      · rintro ⟨k, a, b, c⟩
        by_cases e : k < m
        · exact .inl ⟨k, e, b, c⟩
        · obtain rfl : k = m := by omega
          exact .inr (List.mem_singleton.2 b)
    · rw [if_neg h, mem_firstL (m := m)]
      constructor
      · rintro ⟨k, a, b⟩; exact ⟨k, by omega, b⟩
      · rintro ⟨k, a, b, c, d⟩
        by_cases e : k < m
        · exact ⟨k, e, b, c, d⟩
        · obtain rfl : k = m := by omega
          exact absurd (by rw [c, d]; rfl) h

def prodN (f : Flow) : List Int → Nat
  | [] => 1
  | x :: l => facN (lotAt f.lots x.toNat).ins.length * prodN f l

theorem prodN_snoc (f : Flow) : ∀ (l : List Int) (x : Int), prodN f (l ++ [x]) = prodN f l * facN (lotAt f.lots x.toNat).ins.length
  | [], x => by simp [prodN]
  | a :: l, x => by rw [List.cons_append]; simp only [prodN]; rw [prodN_snoc f l x, Nat.mul_assoc]

theorem facTo_fac {n : Int} : ∀ i v, facTo n i = some v → v = n * facN i
  | 0, v, h => by simp [facTo] at h; simp [facN, h]
  | i + 1, v, h => by
    simp only [facTo] at h
    split at h
    · cases h
    · rename_i u hu
      have ih := facTo_fac i u hu
      split at h
      · cases h
      · injection h with h
        rw [← h, ih]
        simp only [facN]
        rw [Int.mul_assoc]
        congr 1
        push_cast
        rw [Int.mul_comm]

theorem prodTo_prod {f : Flow} {l : List Int} : ∀ k v, k ≤ l.length → prodTo f l k = some v → v = (prodN f (l.take k) : Int)
  | 0, v, _, h => by simp [prodTo] at h; simp [prodN, ← h]
  | k + 1, v, hk, h => by
    simp only [prodTo] at h
    split at h
    · cases h
    · rename_i u hu
      have ih := prodTo_prod k u (by omega) hu
      have := facTo_fac _ _ h
      rw [this, ih, List.take_succ_eq_append_getElem (by omega), prodN_snoc, nth_lt (by omega)]
      push_cast
      rfl

theorem low_cons {f : Flow} {x : Nat} {l : List Int} (hx : (x : Int) ∉ l) : ∀ m, lowN f ((x : Int) :: l) m = if x < m then facN (lotAt f.lots x).ins.length * lowN f l m else lowN f l m
  | 0 => by simp [lowN]
  | m + 1 => by
    have ih := low_cons hx m (f := f)
    simp only [lowN]
    rw [ih]
    by_cases e : x = m
    · subst e
      have h1 : hasB ((x : Int) :: l) (x : Int) = true := hasB_mem.2 (by simp)
      have h2 : hasB l (x : Int) = false := by
        cases h : hasB l (x : Int) with
        | false => rfl
        | true => exact absurd (hasB_mem.1 h) hx
      rw [if_pos h1, h2, if_neg (by omega), if_pos (by omega), Nat.mul_comm]
      simp
    · have h1 : hasB ((x : Int) :: l) (m : Int) = hasB l (m : Int) := by
        cases h : hasB l (m : Int) with
        | true => exact hasB_mem.2 (List.mem_cons_of_mem _ (hasB_mem.1 h))
        | false =>
          cases h' : hasB ((x : Int) :: l) (m : Int) with
          | false => rfl
          | true =>
            rcases List.mem_cons.1 (hasB_mem.1 h') with h'' | h''
            · omega
            · rw [hasB_mem.2 h''] at h; cases h
      rw [h1]
      by_cases hlt : x < m
      · rw [if_pos hlt, if_pos (show x < m + 1 by omega)]
        split
        · rw [Nat.mul_assoc]
        · rfl
      · rw [if_neg hlt, if_neg (show ¬ x < m + 1 by omega)]

theorem low_nil (f : Flow) : ∀ m, lowN f [] m = 1
  | 0 => rfl
  | m + 1 => by simp only [lowN, low_nil f m]; rfl

theorem low_prod {f : Flow} {m : Nat} : ∀ l : List Int, l.Nodup → (∀ x ∈ l, 0 ≤ x ∧ x < m) → lowN f l m = prodN f l
  | [], _, _ => low_nil f m
  | x :: l, hn, hr => by
    have hn' := List.nodup_cons.1 hn
    have hx := hr x (by simp)
    have hxn : ((x.toNat : Nat) : Int) = x := Int.toNat_of_nonneg hx.1
    have := low_cons (f := f) (x := x.toNat) (l := l) (by rw [hxn]; exact hn'.1) m
    rw [hxn, if_pos (by omega)] at this
    rw [this, low_prod l hn'.2 (fun y hy => hr y (List.mem_cons_of_mem _ hy))]
    rfl

theorem prodR_prodN {f : Flow} {l : List Int} (h : prodB f l = true) : prodR f l = (prodN f l : Int) := by
  unfold prodB at h
  obtain ⟨v, hv⟩ := Option.isSome_iff_exists.1 h
  unfold prodR
  rw [hv, Option.getD_some, prodTo_prod _ _ (Nat.le_refl _) hv, List.take_length]

/-- lots of one side show a lower bound -/
theorem side_le {f : Flow} (hc : checkE f = 0) {l : List Int} (hn : l.Nodup) (hw : (∀ x ∈ l, x ∈ lastL f f.lots.length) ∨ (∀ x ∈ l, x ∈ firstL f f.lots.length)) (hp : prodB f l = true) : prodR f l ≤ ((asgL f).length : Int) := by
  obtain ⟨h0, _, _, _, hl⟩ := checkE_ok hc
  rw [prodR_prodN hp]
  rcases hw with hw | hw
  · have hr : ∀ x ∈ l, 0 ≤ x ∧ x < f.lots.length := fun x hx => lastL_mem f _ x (hw x hx)
    rw [← low_prod l hn hr]
    have := low_last h0 hl hr (fun k hk => by
      obtain ⟨j, _, e, a, b⟩ := mem_lastL.1 (hw _ hk)
      obtain rfl : k = j := by omega
      exact ⟨b, a⟩)
    omega
  · have hr : ∀ x ∈ l, 0 ≤ x ∧ x < f.lots.length := fun x hx => firstL_mem f _ x (hw x hx)
    rw [← low_prod l hn hr]
    have := low_first h0 hl (l := l) (fun k hk => by
      obtain ⟨j, _, e, a, b⟩ := mem_firstL.1 (hw _ hk)
      obtain rfl : k = j := by omega
      exact ⟨b, a⟩) f.lots.length (Nat.le_refl _)
    unfold asgL
    omega

theorem lastL_nodup (f : Flow) : ∀ m, (lastL f m).Nodup
  | 0 => List.nodup_nil
  | m + 1 => by
    simp only [lastL]
    split
    · refine List.nodup_append.2 ⟨lastL_nodup f m, by simp, fun y hy z hz e => ?_⟩
      obtain rfl := List.mem_singleton.1 hz
      have := lastL_mem f m y hy
      omega
    · exact lastL_nodup f m

theorem firstL_nodup (f : Flow) : ∀ m, (firstL f m).Nodup
  | 0 => List.nodup_nil
  | m + 1 => by
    simp only [firstL]
    split
    · refine List.nodup_append.2 ⟨firstL_nodup f m, by simp, fun y hy z hz e => ?_⟩
      obtain rfl := List.mem_singleton.1 hz
      have := firstL_mem f m y hy
      omega
    · exact firstL_nodup f m

theorem lower_le {f : Flow} (hc : checkE f = 0) (h : lowerE f = 0) : lowerR f ≤ ((asgL f).length : Int) := by
  have hok : lowerOk f = true := by
    unfold lowerE at h
    rw [if_neg (by omega)] at h
    split at h
    · assumption
    · omega
  unfold lowerOk at hok
  rw [Bool.and_eq_true] at hok
  unfold lowerR
  rw [if_pos h]
  split
  · exact side_le hc (lastL_nodup f _) (.inl (fun x hx => hx)) hok.1
  · exact side_le hc (firstL_nodup f _) (.inr (fun x hx => hx)) hok.2

end Go.Proofs.Ythekefnocphcdaa

set_option linter.unusedVariables false

set_option linter.unusedSimpArgs false

namespace Go.Proofs.Ythekefnocphcdaa

theorem mem_endsL {f : Flow} {y : Int} : y ∈ endsL f ↔ 0 ≤ y ∧ y < beforeI f f.lots.length ∧ goneB f y f.lots.length = false := by
  unfold endsL
  rw [endsTo_mem]
  constructor
  · rintro ⟨a, b, c⟩; exact ⟨a, by omega, c⟩
  · rintro ⟨a, b, c⟩; exact ⟨a, by omega, c⟩

theorem mem_reachL {f : Flow} {s y : Int} : y ∈ reachL f s ↔ y ∈ endsL f ∧ y ∈ spotsTo f s f.lots.length := by
  unfold reachL
  rw [amongTo_eq _ _ _ (Nat.le_refl _), List.take_length, List.mem_filter, hasB_mem]

theorem asg_reach {f : Flow} (hc : checkE f = 0) {p : List Int} (hp : p ∈ asgL f) {s : Nat} (hs : (s : Int) < f.senders) : nth p s ∈ reachL f s := by
  obtain ⟨h0, _, _, _, hl⟩ := checkE_ok hc
  rw [mem_reachL, mem_endsL]
  have hlen := asg_len (f := f) _ p hp
  exact ⟨((asg_all h0 _ hl p hp).2 _).1 (nth_mem' (by omega)), asg_spots h0 hs _ hl p hp⟩

theorem reach_asg {f : Flow} (hc : checkE f = 0) {s : Nat} (hs : (s : Int) < f.senders) {y : Int} (hy : y ∈ reachL f s) : ∃ p ∈ asgL f, nth p s = y := by
  obtain ⟨h0, _, _, _, hl⟩ := checkE_ok hc
  rw [mem_reachL, mem_endsL] at hy
  exact asg_hit h0 hs _ hl y hy.2 hy.1.2.2

/-- there are at most as many assignments as choices of ends -/
theorem asg_upper {f : Flow} (hc : checkE f = 0) : ((asgL f).length : Int) ≤ waysS (rowsOf f) [] := by
  obtain ⟨h0, _, _, _, hl⟩ := checkE_ok hc
  refine fits_le _ _ _ (srt_nodup (asg_srt _)) (fun p hp => ?_)
  have hlen := asg_len (f := f) _ p hp
  refine fits_of _ _ _ (by rw [rowsOf_len, hlen]) (asg_all h0 _ hl p hp).1 (fun x _ h => by cases h) (fun i hi => ?_)
  rw [rowsOf_len] at hi
  have e : (rowsOf f).getD i [] = reachL f i := matTo_row f _ hi
  rw [e]
  exact asg_reach hc hp (by omega)

def freeN (E used : List Int) : Nat := (E.filter fun x => !hasB used x).length

theorem facN_mono {a b : Nat} (h : a ≤ b) : facN a ≤ facN b := by
  induction h with
  | refl => exact Nat.le_refl _
  | @step b _ ih =>
    simp only [facN]
    exact Nat.le_trans ih (Nat.le_mul_of_pos_left _ (by omega))

theorem free_le (E used : List Int) (x : Int) : freeN E (used ++ [x]) ≤ freeN E used := by
  unfold freeN
  have : (E.filter fun y => !hasB (used ++ [x]) y) = (E.filter fun y => !hasB used y).filter fun y => !hasB (used ++ [x]) y := by
    rw [List.filter_filter]
    congr 1
    funext y
    cases h : hasB used y with
    | false => simp
    | true =>
      have : hasB (used ++ [x]) y = true := hasB_mem.2 (List.mem_append_left _ (hasB_mem.1 h))
      rw [this]; rfl
  rw [this]
  exact List.length_filter_le _ _

theorem free_lt {E used : List Int} {x : Int} (hx : x ∈ E) (hu : x ∉ used) : freeN E (used ++ [x]) + 1 ≤ freeN E used := by
  unfold freeN
  have h1 : (E.filter fun y => !hasB (used ++ [x]) y) = (E.filter fun y => !hasB used y).filter fun y => !hasB (used ++ [x]) y := by
    rw [List.filter_filter]
    congr 1
    funext y
    cases h : hasB used y with
    | false => simp
    | true =>
      have : hasB (used ++ [x]) y = true := hasB_mem.2 (List.mem_append_left _ (hasB_mem.1 h))
      rw [this]; rfl
  have hm : x ∈ E.filter fun y => !hasB used y := List.mem_filter.2 ⟨hx, by
    cases h : hasB used x with
    | false => rfl
    | true => exact absurd (hasB_mem.1 h) hu⟩
  rw [h1]
  have h2 := filter_split (fun y => !hasB (used ++ [x]) y) (E.filter fun y => !hasB used y)
  have h3 : x ∈ (E.filter fun y => !hasB used y).filter fun y => !(!hasB (used ++ [x]) y) := List.mem_filter.2 ⟨hm, by
    rw [hasB_mem.2 (List.mem_append_right _ (by simp))]; rfl⟩
  have := List.length_pos_of_mem h3
  omega

theorem sum_few {g : Int → Int} {c : Int} {P : Int → Bool} (hc : 0 ≤ c) : ∀ l : List Int, (∀ x ∈ l, P x = false → g x ≤ 0) → (∀ x ∈ l, P x = true → g x ≤ c) → (l.map g).sum ≤ ((l.filter P).length : Int) * c
  | [], _, _ => by simp
  | x :: l, h1, h2 => by
    have ih := sum_few hc l (fun y hy => h1 y (List.mem_cons_of_mem _ hy)) (fun y hy => h2 y (List.mem_cons_of_mem _ hy))
    rw [List.map_cons, List.sum_cons, List.filter_cons]
    cases hP : P x with
    | false =>
      have := h1 x (by simp) hP
      simp only [Bool.false_eq_true, if_false]
      omega
    | true =>
      have := h2 x (by simp) hP
      simp only [if_true, List.length_cons]
      have e : (((l.filter P).length + 1 : Nat) : Int) * c = ((l.filter P).length : Int) * c + c := by
        push_cast
        rw [Int.add_mul, Int.one_mul]
      rw [e]
      omega

theorem ways_free {E : List Int} : ∀ (rows : List (List Int)) (used : List Int), (∀ r ∈ rows, r.Nodup ∧ (r.length ≤ 1 ∨ ∀ x ∈ r, x ∈ E)) → waysS rows used ≤ (facN (freeN E used) : Int)
  | [], used, _ => by
    have := facN_pos (freeN E used)
    show (1 : Int) ≤ _
    omega
  | row :: rest, used, h => by
    have hr := h row (by simp)
    have ih := fun x => ways_free (E := E) rest (used ++ [x]) (fun r hr => h r (List.mem_cons_of_mem _ hr))
    simp only [waysS]
    rcases hr.2 with h1 | h1
    · match row, h1 with
      | [], _ => simp
      | [x], _ =>
        simp only [List.map_cons, List.map_nil, List.sum_cons, List.sum_nil, Int.add_zero]
        split
        · omega
        · have := facN_mono (free_le E used x)
          have := ih x
          omega
      | a :: b :: t, h => simp at h
    · have hcnt : (row.filter fun x => !hasB used x).length ≤ freeN E used :=
        nodup_len (List.Nodup.sublist List.filter_sublist hr.1) (fun x hx => List.mem_filter.2 ⟨h1 x (List.mem_filter.1 hx).1, (List.mem_filter.1 hx).2⟩)
      have hs := sum_few (g := fun x => if hasB used x then 0 else waysS rest (used ++ [x])) (c := (facN (freeN E used - 1) : Int)) (P := fun x => !hasB used x) (by omega) row
        (fun x _ hP => by
          have hP' : hasB used x = true := by simpa using hP
          rw [if_pos hP']; omega)
        (fun x hx hP => by
          have hP' : hasB used x = false := by simpa using hP
          rw [hP', if_neg (by decide)]
          have a := free_lt (E := E) (used := used) (h1 x hx) (fun hm => by rw [hasB_mem.2 hm] at hP'; cases hP')
          have b := facN_mono (show freeN E (used ++ [x]) ≤ freeN E used - 1 by omega)
          have := ih x
          omega)
      refine Int.le_trans hs ?_
      generalize (row.filter fun x => !hasB used x).length = c at *
      cases hF : freeN E used with
      | zero =>
        rw [hF] at hcnt
        obtain rfl : c = 0 := by omega
        simp [facN]
      | succ F =>
        rw [hF] at hcnt
        simp only [facN, Nat.add_sub_cancel]
        have := Nat.mul_le_mul_right (facN F) hcnt
        exact_mod_cast this

theorem unk_is {f : Flow} {s : Int} : ∀ {m : Nat}, 0 ≤ unkTo f s m → ∃ j, j < m ∧ unkTo f s m = (j : Int) ∧ (lotAt f.lots j).known = false
  | 0, h => by simp [unkTo] at h
  | m + 1, h => by
    by_cases h1 : 0 ≤ unkTo f s m
    · obtain ⟨j, a, b, c⟩ := unk_is h1
      exact ⟨j, by omega, by rw [unkTo_stay h1 (by omega), b], c⟩
    · simp only [unkTo] at h ⊢
      rw [if_neg h1] at h ⊢
      split
      · rename_i hb
        rw [Bool.and_eq_true, Bool.not_eq_true'] at hb
        exact ⟨m, by omega, rfl, hb.2⟩
      · rename_i hb
        rw [if_neg hb] at h
        omega

theorem all_same {x : Int} : ∀ {l : List Int}, l.Nodup → (∀ y ∈ l, y = x) → l.length ≤ 1
  | [], _, _ => by simp
  | [a], _, _ => by simp
  | a :: b :: t, hn, h => by
    have h1 := h a (by simp)
    have h2 := h b (by simp)
    have := (List.nodup_cons.1 hn).1
    rw [h1, ← h2] at this
    simp at this

theorem one_list {l : List Int} {x : Int} (hn : l.Nodup) (h : ∀ y, y ∈ l ↔ y = x) : l = [x] := by
  match l, hn, h with
  | [], _, h => have := (h x).2 rfl; cases this
  | [a], _, h => rw [(h a).1 (by simp)]
  | a :: b :: t, hn, h =>
    have := all_same hn (fun y hy => (h y).1 hy)
    simp at this

/-- with one unknown lot both bounds are the factorial of its size, and so is the number of assignments -/
theorem exact_law {f : Flow} (hc : checkE f = 0) (h6 : f.senders ≤ 6) {k : Nat} (hk : k < f.lots.length) (hu : ∀ j, j < f.lots.length → ((lotAt f.lots j).known = false ↔ j = k)) :
    upperE f = 0 ∧ upperR f = (facN (lotAt f.lots k).ins.length : Int) ∧ lowerE f = 0 ∧ lowerR f = (facN (lotAt f.lots k).ins.length : Int) ∧ lowerL f = [(k : Int)] ∧
      (asgL f).length = facN (lotAt f.lots k).ins.length := by
  obtain ⟨h0, _, _, _, hl⟩ := checkE_ok hc
  have hkn : (lotAt f.lots k).known = false := (hu k hk).2 rfl
  have hlow := lower_ok hc h6
  have hlast : lastB f k = true := by
    have : ∀ n, lastTo f k n = true := fun n => by
      induction n with
      | zero => rfl
      | succ n ih =>
        simp only [lastTo, ih, Bool.true_and, decide_eq_true_eq]
        have h1 := unk_later hl hk (s := beforeI f k + n) (by omega)
        unfold unkI
        rcases h1 with h1 | h1
        · exact h1
        · obtain ⟨j, a, b, c⟩ := unk_is (f := f) (s := beforeI f k + n) (m := f.lots.length) (by omega)
          have := (hu j a).1 c
          omega
    exact this _
  have hfirst : firstB f k = true := by
    unfold firstB
    rw [hitTo_none k (fun j hj hjk => ?_)]
    · rfl
    · have := (hu j (by omega)).1 hjk
      omega
  have hL : lastL f f.lots.length = [(k : Int)] := one_list (lastL_nodup f _) (fun y => by
    rw [mem_lastL]
    constructor
    · rintro ⟨j, a, b, c, _⟩; rw [b, (hu j a).1 c]
    · rintro rfl; exact ⟨k, hk, rfl, hkn, hlast⟩)
  have hF : firstL f f.lots.length = [(k : Int)] := one_list (firstL_nodup f _) (fun y => by
    rw [mem_firstL]
    constructor
    · rintro ⟨j, a, b, c, _⟩; rw [b, (hu j a).1 c]
    · rintro rfl; exact ⟨k, hk, rfl, hkn, hfirst⟩)
  have hok : lowerOk f = true := by
    have h := hlow
    unfold lowerE at h
    rw [if_neg (by omega)] at h
    split at h
    · assumption
    · omega
  have hpB : prodB f [(k : Int)] = true := by
    unfold lowerOk at hok
    rw [Bool.and_eq_true, hL] at hok
    exact hok.1
  have hpR : prodR f [(k : Int)] = (facN (lotAt f.lots k).ins.length : Int) := by
    rw [prodR_prodN hpB]
    simp [prodN]
  have hlR : lowerR f = (facN (lotAt f.lots k).ins.length : Int) := by
    unfold lowerR
    rw [if_pos hlow, hL, hF, if_pos (Int.le_refl _), hpR]
  have hlL : lowerL f = [(k : Int)] := by
    unfold lowerL
    rw [if_pos hlow, hL, hF, if_pos (Int.le_refl _)]
  have hup : waysS (rowsOf f) [] ≤ (facN (lotAt f.lots k).ins.length : Int) := by
    have := ways_free (E := (idL (lotAt f.lots k).ins.length).map fun i => spotAt f (beforeI f k + i) f.lots.length) (rowsOf f) [] (fun r hr => by
      unfold rowsOf at hr
      obtain ⟨s, hs, rfl⟩ : ∃ s : Nat, s < f.senders.toNat ∧ r = reachL f s := by
        obtain ⟨i, hi, e⟩ := List.mem_iff_getElem.1 hr
        rw [matTo_len] at hi
        refine ⟨i, hi, ?_⟩
        rw [← matTo_row f _ hi]
        unfold rowAt
        rw [List.getD_eq_getElem?_getD, List.getElem?_eq_getElem (by rw [matTo_len]; exact hi)]
        exact e.symm
      have hs' : (s : Int) < f.senders := by omega
      refine ⟨reachL_nodup f s, ?_⟩
      by_cases hn : unkTo f s f.lots.length < 0
      · refine .inl (all_same (x := spotAt f s f.lots.length) (reachL_nodup f s) (fun y hy => ?_))
        obtain ⟨p, hp, e⟩ := reach_asg hc hs' hy
        rw [← e]
        exact (asg_last h0 hs' _ hl p hp).1 hn
      · refine .inr (fun y hy => ?_)
        obtain ⟨p, hp, e⟩ := reach_asg hc hs' hy
        obtain ⟨j, i, a, b, c, d, _⟩ := (asg_last h0 hs' _ hl p hp).2 (by omega)
        obtain rfl := (hu j a).1 b
        rw [← e, d]
        exact List.mem_map.2 ⟨(i : Int), List.mem_map.2 ⟨i, List.mem_range.2 c, rfl⟩, rfl⟩)
    refine Int.le_trans this ?_
    have := facN_mono (show freeN ((idL (lotAt f.lots k).ins.length).map fun i => spotAt f (beforeI f k + i) f.lots.length) [] ≤ (lotAt f.lots k).ins.length by
      unfold freeN
      refine Nat.le_trans (List.length_filter_le _ _) ?_
      simp [idL])
    omega
  have hle := asg_upper hc
  have hge := lower_le hc hlow
  rw [hlR] at hge
  refine ⟨?_, ?_, hlow, hlR, hlL, by omega⟩
  · unfold upperE; rw [if_neg (by omega), if_neg (by omega)]
  · unfold upperR
    rw [if_pos (by unfold upperE; rw [if_neg (by omega), if_neg (by omega)])]
    omega

/-- where the letter of each sender is in the end -/
def mapL (f : Flow) : List Int := (List.range f.senders.toNat).map fun (s : Nat) => spotAt f (s : Int) f.lots.length

theorem unk_none {f : Flow} (hk : ∀ j, j < f.lots.length → (lotAt f.lots j).known = true) (s : Int) : unkTo f s f.lots.length < 0 := by
  by_cases h : 0 ≤ unkTo f s f.lots.length
  · obtain ⟨j, a, _, c⟩ := unk_is h
    rw [hk j a] at c
    cases c
  · omega

theorem known_one {f : Flow} (hc : checkE f = 0) (hk : ∀ j, j < f.lots.length → (lotAt f.lots j).known = true) : asgL f = [mapL f] := by
  obtain ⟨h0, _, _, _, hl⟩ := checkE_ok hc
  have hall : ∀ p ∈ asgL f, p = mapL f := fun p hp => by
    have hlen := asg_len (f := f) _ p hp
    refine ext_nth (by rw [hlen]; simp [mapL]) (fun s hs => ?_)
    rw [(asg_last h0 (show (s : Int) < f.senders by omega) _ hl p hp).1 (unk_none hk s)]
    unfold mapL nth
    rw [List.getD_eq_getElem?_getD, List.getElem?_map, List.getElem?_range (by omega)]
    rfl
  have hne : asgL f ≠ [] := asg_ne h0 _ hl
  have hnd : (asgL f).Nodup := srt_nodup (asg_srt _)
  generalize asgL f = l at *
  match l, hne, hnd, hall with
  | [a], _, _, h => rw [h a (by simp)]
  | a :: b :: t, _, hn, h =>
    have h1 := h a (by simp)
    have h2 := h b (by simp)
    have := (List.nodup_cons.1 hn).1
    rw [h1, ← h2] at this
    simp at this

end Go.Proofs.Ythekefnocphcdaa

set_option linter.unusedVariables false

set_option linter.unusedSimpArgs false

namespace Go.Proofs.Ythekefnocphcdaa

open Go.RowKit

/-- what an iterator value promises: its n elements are handed to yield in order; D: the blocks that it leans on; what it hands over may say from which block on it lies -/
def IterB (P : Program) (gf : FuncId) (lb : Array Value) (n : Nat) (enc : Nat → Nat → World → Array Value → Prop) (D : Nat → Prop) (w : World) : Prop :=
  ∀ (l : Nat) (ob : Nat → Prop) (W : World) (J Jx : Nat → Nat → World → Prop),
    Turned (fun k => ¬ D k) w W → (∀ k, ob k → k < W.heap.size ∧ ¬ D k) →
    (∀ s i A B, W.heap.size ≤ s → J s i A → Turned (fun k => W.heap.size ≤ k ∧ k < s) A B → J s i B) →
    (∀ s i A B, W.heap.size ≤ s → Jx s i A → Turned (fun k => W.heap.size ≤ k ∧ k < s) A B → Jx s i B) →
    (∀ s W1, W.heap.size ≤ s → s ≤ W1.heap.size → Below W.heap.size W W1 → J s 0 W1) →
    (∀ s i W1 args, W.heap.size ≤ s → s ≤ W1.heap.size → i < n → J s i W1 → enc W.heap.size i W1 args → YieldAt Fence.wide 9 P l args W1 fun e W' =>
      (e = .returned (.bool true) ∧ J s (i + 1) W' ∧ Turned (fun k => ob k ∨ s ≤ k) W1 W') ∨ (e = .returned (.bool false) ∧ Jx s i W' ∧ Turned (fun k => ob k ∨ s ≤ k) W1 W')) →
    CallsIn Fence.wide 10 P gf (#[.func (.yield l) #[] #[]] ++ lb) W fun e W' => (∃ v, e = .returned v) ∧ ∃ s, W.heap.size ≤ s ∧ s ≤ W'.heap.size ∧ (J s n W' ∨ ∃ i, i < n ∧ Jx s i W')

/-- the rule for a loop over a function -/
theorem range_lawB {P : Program} {g : Operand} {ps : Array Tmp} {assign body : Code} {Q : Exit → Act → World → Prop} {a : Act} {w : World}
    {gf : FuncId} {lb : Array Value} (hg : a.eval g = .func (.func gf) #[] lb) (eg : Enters P gf) {n : Nat} {enc : Nat → Nat → World → Array Value → Prop} {D : Nat → Prop} {w0 : World} (hseq : IterB P gf lb n enc D w0)
    (hw0 : Turned (fun k => ¬ D k) w0 w) (hD : ∀ k, D k → k < w0.heap.size) (ob : Nat → Prop) (hob : ∀ k, ob k → k < w.heap.size ∧ ¬ D k)
    (hps : ∀ i W args, enc (w.heap.size + 2) i W args → args.size = ps.size)
    (I : Nat → Nat → World → Prop) (Ix : Code → Nat → Nat → World → Prop)
    (hI : ∀ s i A B, w.heap.size ≤ s → I s i A → Turned (fun k => w.heap.size ≤ k ∧ k < s) A B → I s i B)
    (hIx : ∀ c s i A B, w.heap.size ≤ s → Ix c s i A → Turned (fun k => w.heap.size ≤ k ∧ k < s) A B → Ix c s i B)
    (h0 : ∀ s W1, w.heap.size ≤ s → s ≤ W1.heap.size → Below w.heap.size w W1 → I s 0 W1)
    (hround : ∀ (l s i : Nat) (W : World) (args : Array Value), w.heap.size + 2 ≤ s → s ≤ W.heap.size → i < n → I s i W → enc (w.heap.size + 2) i W args →
      assign.wpIn (Fence.wide.inRound l) 9 P (Exit.then (fun a₁ W₁ => Below W.heap.size W W₁ ∧ ∀ W₂, Turned (fun k => w.heap.size ≤ k ∧ k < w.heap.size + 2) W₁ W₂ → body.wpIn (Fence.wide.inRound l) 9 P (rndPost ob I Ix s i W₂) a₁ W₂) (fun _ _ _ => False)) { tmps := (ps.zip args).foldl (fun t (p, v) => t.setIfInBounds p v) a.tmps, defers := [] } W)
    (hdone : ∀ (d s : Nat) (W : World), w.heap.size ≤ d → d < s → s ≤ W.heap.size → I s n W → W.heap[d]? = some (.deferred (some [])) → Q .normal { a with defers := { target := .collected d, args := #[] } :: a.defers } W)
    (hstop : ∀ (d s i : Nat) (c : Code) (W : World), w.heap.size ≤ d → d < s → s ≤ W.heap.size → i < n → Ix c s i W → W.heap[d]? = some (.deferred (some [])) → c.wpIn Fence.wide 11 P Q { a with defers := { target := .collected d, args := #[] } :: a.defers } W) :
    (Code.rangeFunc g ps assign body).wpIn Fence.wide 11 P Q a w := by
  refine wpIn_rangeFunc ?_
  intro fn hfn
  obtain ⟨rec, hrec⟩ : ∃ rec : LoopState → Option Code → Loop, rec = fun st pe => { state := st, pending := pe, fn, tmps := a.tmps, params := ps, assign, body, defers := w.heap.size } := ⟨_, rfl⟩
  obtain ⟨W1, hW1⟩ : ∃ W1, (w.alloc (.deferred (some []))).alloc (.loop (rec .ready none)) = W1 := ⟨_, rfl⟩
  have hL1 : W1.heap[w.heap.size + 1]? = some (.loop (rec .ready none)) := by
    rw [← hW1]; have := World.alloc_heap_new (w.alloc (.deferred (some []))) (.loop (rec .ready none)); rwa [World.size_alloc] at this
  have hK1 : W1.heap[w.heap.size]? = some (.deferred (some [])) := by
    rw [← hW1]; exact (Below.heap_alloc _ _ _ (by simp)).trans (World.alloc_heap_new w _)
  have hb1 : Below w.heap.size w W1 := by
    rw [← hW1]; exact ((Below.refl _ w).alloc (Nat.le_refl _) _).alloc (by simp) _
  have hs1 : W1.heap.size = w.heap.size + 2 := by rw [← hW1]; simp
  refine ⟨w.heap.size + 1, [{ target := .collected w.heap.size, args := #[] }], W1, { target := .fn (.func gf) lb, args := #[.func (.yield (w.heap.size + 1)) #[] #[]] }, W1, gf,
    #[.func (.yield (w.heap.size + 1)) #[] #[]] ++ lb, W1, ?_, ?_, ?_, ?_, fun _ => by omega, ?_⟩
  · rw [← hW1, hrec]; exact run_enterLoop_outer _ _ _ _ _
  · simp only [resolve, hg]
    simp [go_sem]
  · intro f' _; trivial
  · simp [invoke, go_sem]; exact eg _ _
  · -- the loop's two blocks beside what the caller's invariant says
    have stay : ∀ {s : Nat} {A B : World}, W1.heap.size ≤ s → Turned (fun k => W1.heap.size ≤ k ∧ k < s) A B → ∀ {k : Nat} {o : Obj}, k < w.heap.size + 2 → A.heap[k]? = some o → B.heap[k]? = some o := by
      intro s A B hs ht k o hk ho
      exact (ht.block k (Array.getElem?_eq_some_iff.1 ho).1 (by omega)).trans ho
    refine (hseq (w.heap.size + 1) (fun k => ob k ∨ k = w.heap.size ∨ k = w.heap.size + 1) W1
      (fun s i W => s ≤ W.heap.size ∧ I s i W ∧ W.heap[w.heap.size + 1]? = some (.loop (rec .ready none)) ∧ W.heap[w.heap.size]? = some (.deferred (some [])))
      (fun s i W => s ≤ W.heap.size ∧ ∃ c, Ix c s i W ∧ W.heap[w.heap.size + 1]? = some (.loop (rec .done (some c))) ∧ W.heap[w.heap.size]? = some (.deferred (some [])))
      (hw0.trans (Turned.of_below hb1))
      (fun k hk => by
        rcases hk with hk | rfl | rfl
        · exact ⟨by have := (hob k hk).1; omega, (hob k hk).2⟩
        · exact ⟨by omega, fun hd => by have := hD _ hd; have := hw0.size; omega⟩
        · exact ⟨by omega, fun hd => by have := hD _ hd; have := hw0.size; omega⟩)
      (fun s i A B hs hj ht => ⟨Nat.le_trans hj.1 ht.size, hI s i A B (by omega) hj.2.1 (ht.mono fun k _ hk => ⟨by omega, hk.2⟩), stay hs ht (by omega) hj.2.2.1, stay hs ht (by omega) hj.2.2.2⟩)
      (fun s i A B hs hj ht => by
        obtain ⟨h, c, hc, hl, hk⟩ := hj
        exact ⟨Nat.le_trans h ht.size, c, hIx c s i A B (by omega) hc (ht.mono fun k _ hk => ⟨by omega, hk.2⟩), stay hs ht (by omega) hl, stay hs ht (by omega) hk⟩)
      (fun s W2 hs hs2 hb2 => ⟨hs2, h0 s W2 (by omega) hs2 (hb1.trans (hb2.mono hb1.size)), (hb2.block _ (by omega)).trans hL1, (hb2.block _ (by omega)).trans hK1⟩)
      ?_).mono ?_
    · -- one round
      rintro s i W args hs hsW hi ⟨_, hiI, hl, hk⟩ hen
      rw [hs1] at hen
      have hlt : w.heap.size + 1 < W.heap.size := (Array.getElem?_eq_some_iff.1 hl).1
      have hy := run_yield (P := P) (args := args) hl (by rw [hrec]; exact hps i W args hen)
      rw [hrec] at hy
      have hrd := hround (w.heap.size + 1) s i W args (by omega) hsW hi hiI hen
      refine ⟨fn, _, assign, body, hy, roundIn_of_wpIn hfn (wpIn_mono hrd ?_)⟩
      rintro e a2 W2 hq
      cases e with
      | normal =>
        obtain ⟨hb2, hbody⟩ := hq
        have hl2 := (hb2.block _ hlt).trans hl
        have hk2 := (hb2.block _ (by omega)).trans hk
        have hlt2 : w.heap.size + 1 < W2.heap.size := (Array.getElem?_eq_some_iff.1 hl2).1
        have hbz : Turned (fun k => w.heap.size ≤ k ∧ k < w.heap.size + 2) W2 (W2.putObj (w.heap.size + 1) (.loop { rec .ready none with state := .busy })) := Turned.putObj _ _ _ ⟨by omega, by omega⟩
        have hl3 : (W2.putObj (w.heap.size + 1) (.loop { rec .ready none with state := .busy })).heap[w.heap.size + 1]? = some (.loop { rec .ready none with state := .busy }) := World.putObj_heap_same hlt2
        have hk3 : (W2.putObj (w.heap.size + 1) (.loop { rec .ready none with state := .busy })).heap[w.heap.size]? = some (.deferred (some [])) := (World.putObj_heap_other (by omega)).trans hk2
        refine ⟨_, run_beginRound hl2 (by rw [hrec]), wpIn_mono (hbody _ hbz) ?_⟩
        have fin : ∀ (jump : Option Code) (W3 : World), Turned (fun k => ob k ∨ s ≤ k) (W2.putObj (w.heap.size + 1) (.loop { rec .ready none with state := .busy })) W3 →
            (Instr.endRound (w.heap.size + 1) jump).run P W3 = .ok (.bool jump.isNone) (W3.putObj (w.heap.size + 1) (.loop (rec (if jump.isNone then .ready else .done) jump))) ∧
            (W3.putObj (w.heap.size + 1) (.loop (rec (if jump.isNone then .ready else .done) jump))).heap[w.heap.size + 1]? = some (.loop (rec (if jump.isNone then .ready else .done) jump)) ∧
            (W3.putObj (w.heap.size + 1) (.loop (rec (if jump.isNone then .ready else .done) jump))).heap[w.heap.size]? = some (.deferred (some [])) ∧
            Turned (fun k => (ob k ∨ k = w.heap.size ∨ k = w.heap.size + 1) ∨ s ≤ k) W (W3.putObj (w.heap.size + 1) (.loop (rec (if jump.isNone then .ready else .done) jump))) ∧
            Turned (fun k => w.heap.size ≤ k ∧ k < s) W3 (W3.putObj (w.heap.size + 1) (.loop (rec (if jump.isNone then .ready else .done) jump))) ∧ s ≤ W3.heap.size := fun jump W3 ht => by
          have nob : ∀ {k : Nat}, w.heap.size ≤ k → ¬ ob k := fun hk hx => by have := (hob _ hx).1; omega
          have q1 := (ht.block _ (by simpa using hlt2) (by rintro (h | h); exact nob (by omega) h; omega)).trans hl3
          have q2 := (ht.block _ (by simp; omega) (by rintro (h | h); exact nob (by omega) h; omega)).trans hk3
          have := run_endRound (P := P) jump q1
          have hz3 := ht.size
          simp at hz3
          have hz2 := hb2.size
          rw [hrec] at this ⊢
          refine ⟨this, World.putObj_heap_same (Array.getElem?_eq_some_iff.1 q1).1, (World.putObj_heap_other (by omega)).trans q2, ?_, Turned.putObj _ _ _ ⟨by omega, by omega⟩, by omega⟩
          have t1 : Turned (fun k => (ob k ∨ k = w.heap.size ∨ k = w.heap.size + 1) ∨ s ≤ k) W W2 := Turned.of_below hb2
          have t2 : Turned (fun k => (ob k ∨ k = w.heap.size ∨ k = w.heap.size + 1) ∨ s ≤ k) W2 (W2.putObj (w.heap.size + 1) (.loop { rec .ready none with state := .busy })) := hbz.mono fun k _ hk => by omega
          have t3 : Turned (fun k => (ob k ∨ k = w.heap.size ∨ k = w.heap.size + 1) ∨ s ≤ k) (W2.putObj (w.heap.size + 1) (.loop { rec .ready none with state := .busy })) W3 := ht.mono fun k _ hk => by
            rcases hk with hk | hk
            · exact Or.inl (Or.inl hk)
            · exact Or.inr hk
          rw [hrec] at t2 t3
          exact t1.trans (t2.trans (t3.trans (Turned.putObj _ _ _ (by omega))))
        rintro e a3 W3 hp
        cases e with
        | normal =>
          obtain ⟨ht3, hi3⟩ := hp
          obtain ⟨hr, hl4, hk4, ht4, ht5, hs3⟩ := fin none W3 ht3
          exact ⟨_, _, hr, .inl ⟨rfl, ⟨by simpa using hs3, hI s (i + 1) _ _ (by omega) hi3 ht5, hl4, hk4⟩, ht4⟩⟩
        | ret =>
          obtain ⟨ht3, hi3⟩ := hp
          obtain ⟨hr, hl4, hk4, ht4, ht5, hs3⟩ := fin (some .ret) W3 ht3
          exact ⟨_, _, hr, .inr ⟨rfl, ⟨by simpa using hs3, .ret, hIx _ s i _ _ (by omega) hi3 ht5, hl4, hk4⟩, ht4⟩⟩
        | exit id =>
          obtain ⟨ht3, hi3⟩ := hp
          obtain ⟨hr, hl4, hk4, ht4, ht5, hs3⟩ := fin (some (.exit id)) W3 ht3
          exact ⟨_, _, hr, .inr ⟨rfl, ⟨by simpa using hs3, .exit id, hIx _ s i _ _ (by omega) hi3 ht5, hl4, hk4⟩, ht4⟩⟩
        | goto t =>
          obtain ⟨ht3, hi3⟩ := hp
          obtain ⟨hr, hl4, hk4, ht4, ht5, hs3⟩ := fin (some (.goto t)) W3 ht3
          exact ⟨_, _, hr, .inr ⟨rfl, ⟨by simpa using hs3, .goto t, hIx _ s i _ _ (by omega) hi3 ht5, hl4, hk4⟩, ht4⟩⟩
        | panic ch => exact hp.elim
        | outgrown => exact hp.elim
      | ret => exact hq
      | exit id => exact hq
      | goto t => exact hq
      | panic ch => exact hq
      | outgrown => exact hq
    · -- behind the iterator
      rintro e W2 ⟨⟨v, rfl⟩, s, hs, hsW, (⟨_, hi, hl, hk⟩ | ⟨i, hin, _, c, hi, hl, hk⟩)⟩
      · have ht : Turned (fun k => w.heap.size ≤ k ∧ k < s) W2 (W2.putObj (w.heap.size + 1) (.loop { rec .ready none with state := .exhausted })) := Turned.putObj _ _ _ ⟨by omega, by omega⟩
        exact ⟨none, _, by have := run_endLoop (P := P) hl (by rw [hrec]; simp); rw [hrec] at this; exact this, hdone _ s _ (Nat.le_refl _) (by omega) (by simpa using hsW) (hI s n _ _ (by omega) hi (by rw [hrec] at ht; exact ht)) ((World.putObj_heap_other (by omega)).trans hk)⟩
      · have ht : Turned (fun k => w.heap.size ≤ k ∧ k < s) W2 (W2.putObj (w.heap.size + 1) (.loop { rec .done (some c) with state := .exhausted })) := Turned.putObj _ _ _ ⟨by omega, by omega⟩
        exact ⟨some c, _, by have := run_endLoop (P := P) hl (by rw [hrec]; simp); rw [hrec] at this; exact this, hstop _ s i c _ (Nat.le_refl _) (by omega) (by simpa using hsW) hin (hIx c s i _ _ (by omega) hi (by rw [hrec] at ht; exact ht)) ((World.putObj_heap_other (by omega)).trans hk)⟩

end Go.Proofs.Ythekefnocphcdaa

set_option linter.unusedVariables false

set_option linter.unusedSimpArgs false

namespace Go.Proofs.Ythekefnocphcdaa

open Go.RowKit

def permsTo (n r : Nat) (b : List Int) (x : Nat) : List (List Int) := (List.range x).flatMap fun (y : Nat) => if hasB b (y : Int) then [] else permsF n r (b ++ [(y : Int)])

theorem permsTo_in {n r : Nat} {b : List Int} {x : Nat} (h : hasB b (x : Int) = true) : permsTo n r b (x + 1) = permsTo n r b x := by
  unfold permsTo
  rw [List.range_succ, List.flatMap_append]
  simp [h]

theorem permsTo_out {n r : Nat} {b : List Int} {x : Nat} (h : hasB b (x : Int) = false) : permsTo n r b (x + 1) = permsTo n r b x ++ permsF n r (b ++ [(x : Int)]) := by
  unfold permsTo
  rw [List.range_succ, List.flatMap_append]
  simp [h]

theorem permsTo_all (n r : Nat) (b : List Int) : permsTo n r b n = permsF n (r + 1) b := rfl

theorem permsTo_pre {n r : Nat} {b : List Int} {x m : Nat} (h : x ≤ m) : ∃ t, permsTo n r b m = permsTo n r b x ++ t := by
  induction h with
  | refl => exact ⟨[], by simp⟩
  | @step m _ ih =>
    obtain ⟨t, ht⟩ := ih
    cases hb : hasB b (m : Int) with
    | true => exact ⟨t, by rw [permsTo_in hb, ht]⟩
    | false => exact ⟨t ++ permsF n r (b ++ [(m : Int)]), by rw [permsTo_out hb, ht, List.append_assoc]⟩

/-- the list M stands in L from place i on -/
def StandsAt (L : List (List Int)) (i : Nat) (M : List (List Int)) : Prop := ∃ A C, L = A ++ (M ++ C) ∧ A.length = i

theorem StandsAt.sub {L : List (List Int)} {i : Nat} {M1 M2 M3 : List (List Int)} (h : StandsAt L i (M1 ++ (M2 ++ M3))) : StandsAt L (i + M1.length) M2 := by
  obtain ⟨A, C, rfl, rfl⟩ := h
  exact ⟨A ++ M1, M3 ++ C, by simp [List.append_assoc], by simp⟩

theorem StandsAt.one {L : List (List Int)} {i : Nat} {b : List Int} (h : StandsAt L i [b]) : i < L.length ∧ L.getD i [] = b := by
  obtain ⟨A, C, rfl, rfl⟩ := h
  constructor
  · simp
  · rw [List.getD_eq_getElem?_getD]
    simp

theorem stands_step {n r : Nat} {b : List Int} {L : List (List Int)} {i x : Nat} (h : StandsAt L i (permsF n (r + 1) b)) (hx : x < n) (hb : hasB b (x : Int) = false) : StandsAt L (i + (permsTo n r b x).length) (permsF n r (b ++ [(x : Int)])) := by
  obtain ⟨t, ht⟩ := permsTo_pre (n := n) (r := r) (b := b) (show x + 1 ≤ n by omega)
  rw [permsTo_out hb] at ht
  rw [← permsTo_all, ht, List.append_assoc] at h
  exact h.sub

theorem Begins.snoc {n : Nat} {b : List Int} {x : Nat} (h : Begins n b) (hx : x < n) (hb : hasB b (x : Int) = false) : Begins n (b ++ [(x : Int)]) := by
  have hnb : (x : Int) ∉ b := fun hm => by rw [hasB_mem.2 hm] at hb; cases hb
  refine ⟨List.nodup_append.2 ⟨h.1, by simp, fun y hy z hz e => ?_⟩, fun y hy => ?_⟩
  · obtain rfl := List.mem_singleton.1 hz
    subst e
    exact hnb hy
  · rcases List.mem_append.1 hy with hy | hy
    · exact h.2 y hy
    · obtain rfl := List.mem_singleton.1 hy
      omega

/-- v reads as the numbers xs, all cells in blocks of the kind X -/
def IsIntsX (X : Nat → Prop) (w : World) (v : Value) (xs : List Int) : Prop :=
  ∃ b off cap, SliceV v xs.length b off cap ∧ xs.length ≤ 17592186043904 ∧ (∀ x ∈ xs, I64 x) ∧
    ∀ j, j < xs.length → X b ∧ b < w.heap.size ∧ w.cell? ⟨b, off + j, none⟩ = some (.int .i64 (nth xs j))

theorem IsIntsX.turned {X Y : Nat → Prop} {w w' : World} {v : Value} {xs : List Int} (h : IsIntsX X w v xs) (ht : Turned Y w w') (hx : ∀ k, X k → ¬ Y k) : IsIntsX X w' v xs := by
  obtain ⟨b, off, cap, h1, h2, h3, h4⟩ := h
  refine ⟨b, off, cap, h1, h2, h3, fun j hj => ?_⟩
  obtain ⟨a, c, d⟩ := h4 j hj
  exact ⟨a, by have := ht.size; omega, (ht.cell (p := ⟨b, off + j, none⟩) c (hx b a)).trans d⟩

theorem IsIntsX.ints {X : Nat → Prop} {w : World} {v : Value} {xs : List Int} (h : IsIntsX X w v xs) : IsInts w.heap.size w v xs := by
  obtain ⟨b, off, cap, h1, h2, h3, h4⟩ := h
  exact ⟨b, off, cap, h1, h2, h3, fun j hj => ⟨(h4 j hj).2.1, (h4 j hj).2.2⟩⟩

theorem IsIntsX.mono {X Y : Nat → Prop} {w : World} {v : Value} {xs : List Int} (h : IsIntsX X w v xs) (hxy : ∀ k, X k → Y k) : IsIntsX Y w v xs := by
  obtain ⟨b, off, cap, h1, h2, h3, h4⟩ := h
  exact ⟨b, off, cap, h1, h2, h3, fun j hj => ⟨hxy _ (h4 j hj).1, (h4 j hj).2⟩⟩

theorem IsInts.kind {B : Nat} {w : World} {v : Value} {xs : List Int} (h : IsInts B w v xs) (hB : B ≤ w.heap.size) {X : Nat → Prop} (hX : ∀ k, k < B → X k) : IsIntsX X w v xs := by
  obtain ⟨b, off, cap, h1, h2, h3, h4⟩ := h
  exact ⟨b, off, cap, h1, h2, h3, fun j hj => ⟨hX _ (h4 j hj).1, by have := (h4 j hj).1; omega, (h4 j hj).2⟩⟩

/-- block pa holds the numbers b, with room for n -/
def RowAt (B0 pa n : Nat) (b : List Int) (W : World) : Prop := W.ownsRow B0 3 1 (.slice (some ⟨pa, 0, none⟩) b.length n) b.length (b.map (Value.int .i64))

theorem RowAt.turned {B0 pa n : Nat} {b : List Int} {W W' : World} {X : Nat → Prop} (h : RowAt B0 pa n b W) (ht : Turned X W W') (hx : ¬ X pa) : RowAt B0 pa n b W' := by
  refine ⟨h.1, ?_⟩
  rcases h.2 with ⟨hn, _⟩ | ⟨g, cap, cur, hv, hb, hg, rest⟩
  · cases hn
  · cases hv
    exact Or.inr ⟨pa, n, cur, rfl, hb, (ht.block pa (Array.getElem?_eq_some_iff.1 hg).1 hx).trans hg, rest⟩

theorem RowAt.cut {B0 pa n : Nat} {b : List Int} {x : Int} {W : World} (h : RowAt B0 pa n (b ++ [x]) W) : RowAt B0 pa n b W := by
  refine ⟨by simp, ?_⟩
  rcases h.2 with ⟨hn, _⟩ | ⟨g, cap, cur, hv, hb, hg, h1, h2, h3, h4⟩
  · cases hn
  · cases hv
    refine Or.inr ⟨pa, n, cur, rfl, hb, hg, by simp at h1; omega, h2, h3, ?_⟩
    have e := congrArg (List.take b.length) h4
    rw [List.take_take] at e
    simp only [List.length_append, List.length_cons, List.length_nil, Nat.zero_add, Nat.mul_one] at e ⊢
    rw [show min b.length (b.length + 1) = b.length by omega] at e
    rw [e]
    simp

theorem RowAt.lt {B0 pa n : Nat} {b : List Int} {W : World} (h : RowAt B0 pa n b W) : pa < W.heap.size ∧ b.length ≤ n := by
  rcases h.2 with ⟨hn, _⟩ | ⟨g, cap, cur, hv, hb, hg, h1, h2, h3, h4⟩
  · cases hn
  · cases hv
    exact ⟨(Array.getElem?_eq_some_iff.1 hg).1, h1⟩

theorem RowAt.ints {B0 pa n : Nat} {b : List Int} {W : World} {X : Nat → Prop} (h : RowAt B0 pa n b W) (hb : ∀ x ∈ b, I64 x) (hX : X pa) (hl : b.length ≤ 17592186043904) : IsIntsX X W (.slice (some ⟨pa, 0, none⟩) b.length n) b := by
  have hlt := h.lt
  rcases h.2 with ⟨hn, _⟩ | ⟨g, cap, cur, hv, hb', hg, h1, h2, h3, h4⟩
  · cases hn
  · cases hv
    refine ⟨pa, 0, n, ⟨_, rfl, h1, by unfold maxLen at h2; omega, Or.inl rfl⟩, hl, hb, fun j hj => ⟨hX, hlt.1, ?_⟩⟩
    have hlt' : j < cur.size := by omega
    simp only [World.cell?, hg, Nat.zero_add]
    have : (cur.toList.take (b.length * 1))[j]? = (b.map (Value.int .i64))[j]? := by rw [h4]
    rw [List.getElem?_take, if_pos (by omega)] at this
    simp only [List.getElem?_map, List.getElem?_eq_getElem hj, Option.map_some] at this
    rw [nth_eq_getElem hj]
    simpa using this

/-- what the closure finds: its list, how long it becomes, the function to be called, itself -/
structure ExtW (B0 l n pa pc nc yc ec : Nat) (b : List Int) (W : World) : Prop where
  p : Cell1 W pc (.slice (some ⟨pa, 0, none⟩) b.length n)
  row : RowAt B0 pa n b W
  n : Box W nc #[.int .i64 (n : Int)]
  y : Box W yc #[.func (.yield l) #[] #[]]
  e : Box W ec #[.func (.func 115) #[] #[.pointer (some ⟨pc, 0, none⟩), .pointer (some ⟨nc, 0, none⟩), .pointer (some ⟨yc, 0, none⟩), .pointer (some ⟨ec, 0, none⟩)]]

theorem ExtW.turned {B0 l n pa pc nc yc ec : Nat} {b : List Int} {W W' : World} {X : Nat → Prop} (h : ExtW B0 l n pa pc nc yc ec b W) (ht : Turned X W W') (hx : ¬ X pa ∧ ¬ X pc ∧ ¬ X nc ∧ ¬ X yc ∧ ¬ X ec) : ExtW B0 l n pa pc nc yc ec b W' :=
  ⟨h.p.turned ht hx.2.1, h.row.turned ht hx.1, h.n.turned ht hx.2.2.1, h.y.turned ht hx.2.2.2.1, h.e.turned ht hx.2.2.2.2⟩

theorem room_none (k : Nat) : Fence.wide.room k := fun d h => by cases h

theorem yield_depth {m : Nat} (m' : Nat) {P : Program} {l : Nat} {args : Array Value} {W : World} {R : Ending → World → Prop} (h : YieldAt Fence.wide m P l args W R) : YieldAt Fence.wide m' P l args W R := by
  obtain ⟨fn, tmps, assign, body, hy, h1, h2⟩ := h
  exact ⟨fn, tmps, assign, body, hy, h1, fun c cs _ => h2 c cs (room_none _)⟩

end Go.Proofs.Ythekefnocphcdaa

set_option linter.unusedVariables false

set_option linter.unusedSimpArgs false

namespace Go.Proofs.Ythekefnocphcdaa

open Go.RowKit

attribute [local go_sem] Oper.semAt_some

/-- append(s, n) where there is room -/
theorem append_fitIn {ops : Array Oper} {rest : List Oper} {o : Oper} {a : Act} {w : World} {Q : Exit → Act → World → Prop} {F : Fence} {m : Nat} (hgd : o.guard = none) (s x : Operand)
    (ho : o.op = .call { callee := .builtin .append, args := #[s, x], argTypes := #[34, 34] })
    {B0 pa n : Nat} {b : List Int} {v : Int} {g c : Nat} (hs : a.eval s = .slice (some ⟨pa, 0, none⟩) b.length n) (hrow : RowAt B0 pa n b w) (hx : a.eval x = .slice (some ⟨g, 0, none⟩) 1 c)
    (hg : w.cell? ⟨g, 0, none⟩ = some (.int .i64 v)) (hlen : b.length + 1 ≤ n)
    (h : ∀ w', RowAt B0 pa n (b ++ [v]) w' → w.grownBy w' (some pa) → wpListIn F m Try.prog ops Q rest (a.put o.dst (.slice (some ⟨pa, 0, none⟩) (b ++ [v]).length n)) w') : wpListIn F m Try.prog ops Q (o :: rest) a w := by
  obtain ⟨i0, hi, hz0, hz1, hz2⟩ := info_parts int_info
  refine wpListIn_append_fits w hgd s x 34 ho B0 3 i0 1 Try.underlying34 hi hz1 pa b.length n (b.map (Value.int .i64)) hs hrow ⟨g, 0, none⟩ 1 c [.int .i64 v] hx rfl ?_ ?_ hlen ?_
  · intro j u hj
    match j, hj with
    | 0, hj => simp at hj; subst hj; simpa [Addr.add] using hg
  · intro u hu; simp at hu; subst hu; rfl
  · intro w' h1 h2
    have e : (b ++ [v]).length = b.length + 1 := by simp
    rw [e] at h
    refine h w' ?_ h2
    unfold RowAt
    rw [e]
    simpa using h1

/-- how the closure ends -/
def ExtPost (B0 l n pa pc nc yc ec s N : Nat) (J Jx : Nat → World → Prop) (b : List Int) (i : Nat) (e : Ending) (W' : World) : Prop :=
  (e = .returned (.bool true) ∧ ExtW B0 l n pa pc nc yc ec b W' ∧ J i W' ∧ s ≤ W'.heap.size) ∨ (e = .returned (.bool false) ∧ (∃ i', i' < N ∧ Jx i' W') ∧ s ≤ W'.heap.size)

set_option maxHeartbeats 4000000 in
set_option maxRecDepth 100000 in
theorem extend_any (l n pa pc nc yc ec B0 s N : Nat) (X : Nat → Prop) (L : List (List Int)) (hL : L.length = N) (hn : n ≤ 17592186043904) (ob : Nat → Prop) (J Jx : Nat → World → Prop)
    (hd : pa ≠ pc ∧ yc ≠ pa ∧ yc ≠ pc ∧ ec ≠ pa ∧ ec ≠ pc) (hB : B0 ≤ pa ∧ B0 ≤ pc ∧ B0 ≤ yc ∧ B0 ≤ ec ∧ pa < s ∧ pc < s ∧ yc < s ∧ ec < s) (hnc : nc < B0) (hob : ∀ k, ob k → k < B0 ∧ k ≠ nc) (hX : X pa)
    (hJ : ∀ i A B, J i A → Turned (fun k => B0 ≤ k ∧ k < s) A B → J i B)
    (hY : ∀ i W args, s ≤ W.heap.size → i < N → J i W → (∃ v, args = #[v] ∧ IsIntsX X W v (L.getD i [])) → YieldAt Fence.wide 9 Try.prog l args W fun e W' =>
      (e = .returned (.bool true) ∧ J (i + 1) W' ∧ Turned (fun k => ob k ∨ s ≤ k) W W') ∨ (e = .returned (.bool false) ∧ Jx i W' ∧ Turned (fun k => ob k ∨ s ≤ k) W W')) :
    ∀ (r m : Nat) (b : List Int) (i : Nat) (W : World), Begins n b → b.length + r = n → StandsAt L i (permsF n r b) → s ≤ W.heap.size → ExtW B0 l n pa pc nc yc ec b W → J i W →
      CallsIn Fence.wide m Try.prog 115 #[.pointer (some ⟨pc, 0, none⟩), .pointer (some ⟨nc, 0, none⟩), .pointer (some ⟨yc, 0, none⟩), .pointer (some ⟨ec, 0, none⟩)] W
        (ExtPost B0 l n pa pc nc yc ec s N J Jx b (i + (permsF n r b).length)) := by
  intro r
  induction r with
  | zero =>
    intro m b i W hb hbr hst hs hE hj
    have hbl : b.length = n := by omega
    obtain ⟨hiN, hib⟩ := hst.one
    have HIN := Lib.hid hiN
    have hI64 : ∀ x ∈ b, I64 x := fun x hx => by have := hb.2 x hx; unfold I64; omega
    have hval := hE.row.ints (X := X) hI64 hX (by omega)
    have HY := Lib.hid (yield_depth (m - 1) (hY i W #[.slice (some ⟨pa, 0, none⟩) b.length n] hs (by omega) hj ⟨_, rfl, by rw [hib]; exact hval⟩))
    have HE := Lib.hid hE
    obtain ⟨z1, c1⟩ := hE.p.box
    obtain ⟨z2, c2⟩ := hE.n
    obtain ⟨z3, c3⟩ := hE.y
    have d1 := c1 0
    have d2 := c2 0
    have d3 := c3 0
    simp only [List.getElem?_toArray, List.getElem?_cons_zero] at d1 d2 d3
    obtain ⟨fn, tmps, assign, body, hy, hR⟩ := HY.out
    have HR := Lib.hid hR
    have HB := Lib.hid hB
    have HOB := Lib.hid hob
    have HS := Lib.hid hs
    have HNC := Lib.hid hnc
    have HLL := Lib.hid hL
    have hq : ((b.length : Int) == (n : Int)) = true := by rw [hbl]; simp
    have hdp : Fence.wide.depth.isSome = true → 1 ≤ m := fun h => by cases h
    clear hb hbr hst hE hj hib hI64 hval HY hR hB hob hY hJ c1 c2 c3 hX z1 z2 z3 hL hiN hs hnc hn hbl
    refine callsIn_of_wp Try.func115 rfl trivial ?_ rfl
    simp only [Try.ntmps115, List.size_toArray, List.length_cons, List.length_nil, Nat.reduceAdd, Nat.reduceSub, Array.replicate_succ, Array.replicate_zero, List.push_toArray, List.append_toArray, List.nil_append, List.cons_append]
    gi_wp2
    refine ⟨hdp, HR.out.mono ?_⟩
    rintro e W' (⟨rfl, hJ', ht⟩ | ⟨rfl, hJx', ht⟩)
    · gi_wp2
      go_ret
      have hb := HB.out
      have hnc := HNC.out
      refine Or.inl ⟨rfl, HE.out.turned ht ?_, ?_, ?_⟩
      · refine ⟨fun h => ?_, fun h => ?_, fun h => ?_, fun h => ?_, fun h => ?_⟩ <;> rcases h with h | h
        all_goals first | omega | (have := HOB.out _ h; omega)
      · simpa [permsF] using hJ'
      · have := ht.size; have := HS.out; omega
    · gi_wp2
      go_ret
      exact Or.inr ⟨rfl, ⟨_, by rw [← HLL.out]; exact HIN.out, hJx'⟩, by have := ht.size; have := HS.out; omega⟩
  | succ r ih =>
    intro m b i W hb hbr hst hs hE hj
    have hbl : b.length < n := by omega
    have hq : ((b.length : Int) == (n : Int)) = false := by simp; omega
    have HI64 : Hid (∀ x ∈ b, I64 x) := Lib.hid (fun x hx => by have := hb.2 x hx; unfold I64; omega)
    have HBL := Lib.hid hbl
    have HN := Lib.hid hn
    have HST := Lib.hid hst
    have HBG := Lib.hid hb
    have HBR := Lib.hid hbr
    have HE0 := Lib.hid hE
    have HJ0 := Lib.hid hj
    have HS0 := Lib.hid hs
    have HB := Lib.hid hB
    have HD := Lib.hid hd
    have HJ := Lib.hid hJ
    have HX := Lib.hid hX
    have HNC := Lib.hid hnc
    have HIH := Lib.hid ih
    obtain ⟨z1, c1⟩ := hE.p.box
    obtain ⟨z2, c2⟩ := hE.n
    have d1 := c1 0
    have d2 := c2 0
    simp only [List.getElem?_toArray, List.getElem?_cons_zero] at d1 d2
    have hdp : Fence.wide.depth.isSome = true → 1 ≤ m := fun h => by cases h
    have hn9 : (n : Int) ≤ 17592186043904 := by omega
    have HBL9 := Lib.hid (show b.length ≤ 17592186043904 by omega)
    clear hb hbr hst hE hj hB hob hY hJ c1 c2 hX z1 z2 hL hs hnc hn hbl ih hd
    refine callsIn_of_wp Try.func115 rfl trivial ?_ rfl
    simp only [Try.ntmps115, List.size_toArray, List.length_cons, List.length_nil, Nat.reduceAdd, Nat.reduceSub, Array.replicate_succ, Array.replicate_zero, List.push_toArray, List.append_toArray, List.nil_append, List.cons_append]
    gi_wp2
    gi_loopw [5, 14] (fun u iv wr => ∃ x : Nat, x ≤ n ∧ iv = .int .i64 x ∧ ExtW B0 l n pa pc nc yc ec b wr ∧ J (i + (permsTo n r b x).length) wr ∧ s ≤ wr.heap.size) (fun u iv _ => n - (intOf iv).toNat)
    case atStart => exact ⟨0, by omega, rfl, HE0.out, by simpa [permsTo] using HJ0.out, HS0.out⟩
    case round =>
      obtain ⟨x, hx, rfl, hE, hj, hs⟩ := hrel
      obtain ⟨w0, rfl⟩ : ∃ w0 : World, w0 = wr := ⟨_, rfl⟩
      have HE := Lib.hid hE
      have HJ1 := Lib.hid hj
      have HS1 := Lib.hid hs
      obtain ⟨z1, c1⟩ := hE.p.box
      have e1 := c1 0
      simp only [List.getElem?_toArray, List.getElem?_cons_zero] at e1
      clear hE hj hs z1 c1 d1 d2
      by_cases hlt : x < n
      · have HCC := Lib.hid (scontains_any _ _ _ b (x : Int) (HE.out.row.ints (X := fun _ => True) HI64.out trivial HBL9.out).ints)
        cases hbx : hasB b (x : Int)
        · rw [hbx] at HCC
          have HBX := Lib.hid hbx
          have HLT := Lib.hid hlt
          have hroom : b.length + 1 ≤ n := by have := HBL.out; omega
          clear hbx
          gi_wp2_with (first
            | (refine ⟨trivial, hdp, ?_⟩; gi_at_call 66; refine (callsIn_wide.2 HCC.out).mono ?_; rintro e w5 ⟨rfl, hw5⟩; obtain rfl := hw5.symm)
            | (gi_at_builtin; (refine append_fitIn (v := (x : Int)) rfl _ _ rfl rfl (HE.out.row.turned (X := fun _ => False) (Turned.of_below (box_below' _ _)) (fun h => h)) rfl ?c1 hroom ?c2)))
          case c1 => exact (Cell1.new _ _ _).cell
          case c2 =>
            intro w6 hrow6 hg6
            have hT6 : Turned (fun k => k = pa) w0 w6 := (Turned.of_below (box_below' w0 _)).trans (Turned.of_grown hg6 (fun k e => by cases e; rfl))
            have hC6 := HE.out.p.turned hT6 (fun h => HD.out.1 h.symm)
            have f1 := hC6.cell
            have f2 := hC6.free
            have hlen : (b ++ [(x : Int)]).length = b.length + 1 := by simp
            have hT7 : Turned (fun k => B0 ≤ k ∧ k < s) w0 (w6.setCell ⟨pc, 0, none⟩ (.slice (some ⟨pa, 0, none⟩) (b ++ [(x : Int)]).length n)) :=
              (hT6.mono fun k _ h => by have := HB.out; omega).trans (Turned.of_grown (grown_setCell w6 ⟨pc, 0, none⟩ _) (fun k e => by injection e with e; subst e; exact ⟨HB.out.2.1, HB.out.2.2.2.2.2.1⟩))
            have hE7 : ExtW B0 l n pa pc nc yc ec (b ++ [(x : Int)]) (w6.setCell ⟨pc, 0, none⟩ (.slice (some ⟨pa, 0, none⟩) (b ++ [(x : Int)]).length n)) := by
              have hTs : Turned (fun k => k = pa ∨ k = pc) w0 (w6.setCell ⟨pc, 0, none⟩ (.slice (some ⟨pa, 0, none⟩) (b ++ [(x : Int)]).length n)) :=
                (hT6.mono fun k _ h => Or.inl h).trans (Turned.of_grown (grown_setCell w6 ⟨pc, 0, none⟩ _) (fun k e => by cases e; exact Or.inr rfl))
              have hd := HD.out
              have hb := HB.out
              have hn := HNC.out
              exact ⟨hC6.set _, hrow6.turned (X := fun k => k = pc) (Turned.of_grown (grown_setCell w6 ⟨pc, 0, none⟩ _) (fun k e => by cases e; rfl)) (fun h => hd.1 h),
                HE.out.n.turned hTs (fun h => by omega), HE.out.y.turned hTs (fun h => by omega), HE.out.e.turned hTs (fun h => by omega)⟩
            have HE7 := Lib.hid hE7
            have HJ7 := Lib.hid (HJ.out _ _ _ HJ1.out hT7)
            have HS7 := Lib.hid (Nat.le_trans HS1.out hT7.size)
            obtain ⟨z3, c3⟩ := hE7.e
            have e3 := c3 0
            simp only [List.getElem?_toArray, List.getElem?_cons_zero] at e3
            clear hE7 c3 z3 hT7 hT6 hC6 hrow6 hg6
            rw [hlen] at e3 HE7 HJ7 HS7
            gi_wp2
            refine ⟨trivial, hdp, (HIH.out (m - 1) _ _ _ (HBG.out.snoc HLT.out HBX.out) (by rw [hlen]; have := HBR.out; omega) (stands_step HST.out HLT.out HBX.out) HS7.out HE7.out HJ7.out).mono ?_⟩
            rintro e W3 (⟨rfl, hE3, hj3, hs3⟩ | ⟨rfl, hx3, hs3⟩)
            · have HE3 := Lib.hid hE3
              have HJ3 := Lib.hid hj3
              have HS3 := Lib.hid hs3
              have g1 := hE3.p.cell
              have g2 := hE3.p.free
              clear hE3 hj3 hs3 e3 f1 f2
              rw [hlen] at g1
              have hbl9 : (b.length : Int) ≤ 17592186043904 := by have := HBL9.out; omega
              gi_wp2
              go_roundw
              case rel =>
                have hd := HD.out
                have hb := HB.out
                have hn := HNC.out
                have hTs : ∀ v, Turned (fun k => k = pc) W3 (W3.setCell ⟨pc, 0, none⟩ v) := fun v => Turned.of_grown (grown_setCell W3 ⟨pc, 0, none⟩ _) (fun k e => by cases e; rfl)
                refine ⟨x + 1, by omega, by go_num, ?_, ?_, ?_⟩
                · have hp := HE3.out.p.set (.slice (some ⟨pa, 0, none⟩) b.length n)
                  have hr := HE3.out.row.cut.turned (hTs (.slice (some ⟨pa, 0, none⟩) b.length n)) (fun h => hd.1 h)
                  have q1 := HE3.out.n.turned (hTs (.slice (some ⟨pa, 0, none⟩) b.length n)) (fun h => by omega)
                  have q2 := HE3.out.y.turned (hTs (.slice (some ⟨pa, 0, none⟩) b.length n)) (fun h => by omega)
                  have q3 := HE3.out.e.turned (hTs (.slice (some ⟨pa, 0, none⟩) b.length n)) (fun h => by omega)
                  have hE : ExtW B0 l n pa pc nc yc ec b (W3.setCell ⟨pc, 0, none⟩ (.slice (some ⟨pa, 0, none⟩) b.length n)) := ⟨hp, hr, q1, q2, q3⟩
                  exact hE
                · rw [permsTo_out HBX.out, List.length_append, ← Nat.add_assoc]
                  exact HJ.out _ _ _ HJ3.out ((hTs _).mono fun k _ h => by rw [h]; exact ⟨hb.2.1, hb.2.2.2.2.2.1⟩)
                · exact Nat.le_trans HS3.out (hTs _).size
              case measure => simp [intOf]; omega
            · gi_wp2
              go_ret
              exact Or.inr ⟨rfl, hx3, hs3⟩
        · rw [hbx] at HCC
          have HBX := Lib.hid hbx
          clear hbx
          gi_wp2_with (refine ⟨trivial, hdp, ?_⟩; gi_at_call 66; refine (callsIn_wide.2 HCC.out).mono ?_; rintro e w5 ⟨rfl, hw5⟩; obtain rfl := hw5.symm)
          go_roundw
          case rel => exact ⟨x + 1, by omega, by go_num, HE.out, by rw [permsTo_in HBX.out]; exact HJ1.out, HS1.out⟩
          case measure => simp [intOf]; omega
      · obtain rfl : x = n := by omega
        gi_wp2
        go_ret
        exact Or.inl ⟨rfl, HE.out, by rw [← permsTo_all]; exact HJ1.out, HS1.out⟩

end Go.Proofs.Ythekefnocphcdaa
