/-
  Layer 3: the walk of the scanner's number. What is laid: the table of powers of ten, the variable ErrRange.
-/
import Derived.Test.YtfnmidddgjlipaaGreatDoorLx8
import Derived.Lib.AtoiErrMem
import Derived.Lib.AppendIntMem
import Derived.Lib.LaidTab
set_option linter.unusedVariables false
set_option linter.unusedSimpArgs false
namespace Go.Proofs.YtfnmidddgjlipaaGreatDoor
open Go.RowKit

/-- the laid variables -/
def LaidW (w : World) : Prop := Go.Lib.TabIs Tryz.prog w "internal/strconv.uint64pow10" .u64 Go.Lib.pow10Tab ∧ ∃ ev, w.cell? ⟨1, 0, none⟩ = some ev ∧ (ev = .nilIface ∨ ∃ te pe, ev = .iface te pe)
theorem pow10_at : Tryz.prog.globalNamed "internal/strconv.uint64pow10" = some 3 := by kernel_rfl
theorem LaidW.below {B : Nat} {w w' : World} (h : LaidW w) (hb : Below B w w') (hB : 4 ≤ B) : LaidW w' := by
  obtain ⟨h1, ev, h2, h3⟩ := h
  refine ⟨?_, ev, ?_, h3⟩
  · unfold Go.Lib.TabIs World.var? at *
    rw [pow10_at] at *
    simp only [Option.bind_some] at *
    rw [hb.block _ (show 3 < B by omega)]
    exact h1
  · exact (hb.cell (p := ⟨1, 0, none⟩) (show 1 < B by omega)).trans h2
theorem LaidW.size {w : World} (h : LaidW w) : 4 ≤ w.heap.size := by
  obtain ⟨h1, _⟩ := h
  unfold Go.Lib.TabIs World.var? at h1
  rw [pow10_at] at h1
  simp only [Option.bind_some] at h1
  cases hh : w.heap[3]? with
  | none => rw [hh] at h1; cases h1
  | some o => exact (Array.getElem?_eq_some_iff.1 hh).1

/-! ### digits and Atoi -/
def valFrom (a : Nat) (l : List UInt8) : Nat := l.foldl (fun a c => 10 * a + (c.toNat - 48)) a
theorem valFrom_ge : ∀ (l : List UInt8) (a : Nat), a ≤ valFrom a l
  | [], a => Nat.le_refl _
  | c :: r, a => by
    have := valFrom_ge r (10 * a + (c.toNat - 48))
    unfold valFrom at *
    simp only [List.foldl_cons]
    omega
theorem parse_digs : ∀ (l : List UInt8) (a : Nat), (∀ c ∈ l, isDig c = true) → a < 18446744073709551616 →
    Go.Lib.parseUint10 a l = if valFrom a l < 18446744073709551616 then .ok (valFrom a l) else .range
  | [], a, _, ha => by
    have : valFrom a [] = a := rfl
    rw [this, if_pos ha]
    rfl
  | c :: r, a, hd, ha => by
    have h1 := hd c (by simp)
    have h2 : 48 ≤ c.toNat ∧ c.toNat ≤ 57 := by unfold isDig at h1; simpa using h1
    have hv : valFrom a (c :: r) = valFrom (10 * a + (c.toNat - 48)) r := rfl
    have hge := valFrom_ge r (10 * a + (c.toNat - 48))
    simp only [Go.Lib.parseUint10]
    rw [if_pos h2, hv, show a * 10 + (c.toNat - 48) = 10 * a + (c.toNat - 48) by omega]
    by_cases h3 : 1844674407370955162 ≤ a
    · rw [if_pos h3, if_neg (by omega)]
    · rw [if_neg h3]
      by_cases h4 : 18446744073709551616 ≤ 10 * a + (c.toNat - 48)
      · rw [if_pos h4, if_neg (by omega)]
      · rw [if_neg h4]
        exact parse_digs r _ (fun x hx => hd x (by simp [hx])) (by omega)
theorem atoi_digs {l : List UInt8} (hd : ∀ c ∈ l, isDig c = true) (hne : l ≠ []) :
    Go.Lib.atoiAll l = if valOf l < 9223372036854775808 then .ok (valOf l : Int) else .range := by
  match l, hne with
  | c :: r, _ =>
    have h1 := hd c (by simp)
    have h2 : 48 ≤ c.toNat ∧ c.toNat ≤ 57 := by unfold isDig at h1; simpa using h1
    have hp : Go.Lib.parseMag (c :: r) = if valOf (c :: r) < 18446744073709551616 then .ok (valOf (c :: r)) else .range := by
      unfold Go.Lib.parseMag
      rw [if_neg (by simp)]
      exact parse_digs (c :: r) 0 hd (by omega)
    unfold Go.Lib.atoiAll
    have e1 : ¬ (c.toNat = 43 ∨ c.toNat = 45) := by omega
    have e2 : ¬ c.toNat = 45 := by omega
    simp only [e1, if_false, hp]
    by_cases h3 : valOf (c :: r) < 18446744073709551616
    · simp only [h3, if_true, e2, not_false_eq_true, true_and, false_and, if_false]
      by_cases h4 : valOf (c :: r) < 9223372036854775808
      · rw [if_neg (by omega), if_pos h4]
      · rw [if_pos (by omega), if_neg h4]
    · simp only [h3, if_false]
      rw [if_neg (by omega)]

theorem runL_digs (src : ByteArray) (at_ : Nat) : ∀ c ∈ runL src at_ [3], isDig c = true := by
  intro c hc
  unfold runL at hc
  rw [← cls_digP]
  have key : ∀ (l : List UInt8), c ∈ l.takeWhile (runP [3]) → runP [3] c = true := by
    intro l
    induction l with
    | nil => intro h; cases h
    | cons a r ih =>
      intro h
      rw [List.takeWhile_cons] at h
      split at h
      · rcases List.mem_cons.1 h with rfl | h
        · assumption
        · exact ih h
      · cases h
  exact key _ hc

/-- how the scanner goes on behind a number -/
def NumPost (S at_ : Nat) (src : ByteArray) (ts : List Tok) (x : List UInt8) (w : World) (e : Ending) (w' : World) : Prop :=
  (numB x = true → e = .returned (.tuple #[]) ∧ Scan S src w' (at_ + x.length) (ts ++ [⟨2, [], valOf x, at_⟩])) ∧ (numB x = false → e = placeP at_) ∧ Below S w w'

set_option maxHeartbeats 1000000 in
set_option maxRecDepth 100000 in
theorem number_any (S at_ : Nat) (src : ByteArray) (ts : List Tok) (w : World) (hL : LaidW w) (hS6 : 4 ≤ S) (hS : Scan S src w at_ ts) (hat : at_ ≤ src.size) (hs : src.size ≤ 1000000) (hn : ts.length ≤ 1000000) (hne : runL src at_ [3] ≠ []) :
    Calls Tryz.prog 29 #[.pointer (some ⟨S, 0, none⟩)] w fun e w' => NumPost S at_ src ts (runL src at_ [3]) w e w' := by
  have hlt := hS.lt
  have HS := Lib.hid hS
  have HLA := Lib.hid hL
  have hdg := runL_digs src at_
  have HAT := Lib.hid (atoi_digs hdg hne)
  have HDE := Lib.hid (dec_eq_iff hdg hne)
  have hle := runL_le src at_ [3]
  obtain ⟨c0, c1⟩ := (hS.ext (box_below' w (.cells #[.int .i64 3] 3))).cells
  have HC := Lib.hid (And.intro c0 c1)
  have HB : Hid (Below w.heap.size w (w.alloc (.cells #[.int .i64 3] 3))) := Lib.hid (box_below' w _)
  clear hS c0 c1 hL hdg hne
  go_enter Tryz.func29, Tryz.ntmps29
  go_wp2_with fail
  refine (run_any S w.heap.size 1 1 src at_ [3] _ HC.out.1 HC.out.2 (fun j hj => ?_) rfl (by simp) hat (by omega)).mono ?_
  focus
    match j, hj with
    | 0, _ => exact World.cell?_alloc_at _ _ _ _ rfl
  rintro e w1 ⟨rfl, hd⟩
  have HBW : Hid (Below w.heap.size w w1) := Lib.hid (HB.out.trans (hd.below _))
  clear hd
  obtain ⟨x, hx⟩ : ∃ x, runL src at_ [3] = x := ⟨_, rfl⟩
  rw [hx] at HAT HDE hle ⊢
  have HX := Lib.hid hx
  clear hx
  have HLEN := Lib.hid (len_mk x)
  go_wp2_with fail
  by_cases hv : valOf x < 9223372036854775808
  · rw [if_pos hv] at HAT
    refine (Tryz.strconv_Atoi_ok ⟨x.toArray⟩ (by rw [HLEN.out]; omega) (valOf x) HAT.out _).mono ?_
    rintro e w2 ⟨rfl, h2⟩
    have HB2 : Hid (Below w1.heap.size w1 w2) := Lib.hid (by
      rcases h2 with rfl | ⟨t, rfl⟩
      · exact Below.refl _ _
      · exact Go.Lib.bytesWorld_below _ _ _)
    clear h2
    have HB02 : Hid (Below w.heap.size w w2) := Lib.hid (HBW.out.trans (HB2.out.mono HBW.out.size))
    have HL2 := Lib.hid (HLA.out.below HB02.out (by omega))
    go_wp2_with fail
    refine (Tryz.strconv_Itoa (valOf x : Int) (by omega) (by omega) _ HL2.out.1).mono ?_
    rintro e w3 ⟨rfl, k, os, hw3⟩
    have HB3 : Hid (Below w.heap.size w w3) := Lib.hid (HB02.out.trans (by rw [hw3]; exact Go.Lib.below_grow _ _ HB02.out.size _ _))
    clear hw3 k os
    by_cases hcan : (x.length == 1 || x.head? != some 48) = true
    · have hit : Go.Lib.itoa (valOf x : Int) = x := by rw [itoa_nat (by omega), Int.toNat_natCast]; exact HDE.out.2 hcan
      rw [hit]
      have HCAN := Lib.hid hcan
      clear hit hcan
      have HOK : Hid (okT ⟨2, [], (valOf x : Int), 0⟩) := Lib.hid (okT_mk (by omega) (by simp) (by omega) (by omega))
      have HNB : Hid (validB ⟨2, [], (valOf x : Int), 0⟩ = numB x) := Lib.hid (by
        unfold numB
        rw [HCAN.out]
        simp [validB]
        constructor <;> intro h <;> omega)
      go_wp2_with fail
      refine (add_any S at_ src _ ts ⟨2, [], (valOf x : Int), 0⟩ w w3 (HB3.out.mono (Nat.le_of_lt hlt)) (HS.out.ext HB3.out) HOK.out hn (by rw [HLEN.out]; omega)).mono ?_
      intro e w4 hpost
      rw [HLEN.out] at hpost
      have HP := Lib.hid hpost
      clear hpost
      cases hvb : validB ⟨2, [], (valOf x : Int), 0⟩ with
      | true =>
        obtain ⟨rfl, h2⟩ := HP.out.1 hvb
        have HV2 := Lib.hid h2
        have HNT : Hid (numB x = true) := Lib.hid (HNB.out.symm.trans hvb)
        clear hvb h2
        go_wp2
        first | go_end0 | refine bodyPost_ret (results_none rfl _ _ _) rfl ?_
        rw [HX.out]
        exact ⟨fun _ => ⟨rfl, HV2.out⟩, fun h => (by cases HNT.out.symm.trans h), HP.out.2.2⟩
      | false =>
        obtain rfl := HP.out.2.1 hvb
        have HNT : Hid (numB x = false) := Lib.hid (HNB.out.symm.trans hvb)
        clear hvb
        go_wp2
        refine ⟨rfl, ?_⟩
        rw [HX.out]
        exact ⟨fun h => (by cases HNT.out.symm.trans h), fun _ => rfl, HP.out.2.2⟩
    · have hit : Go.Lib.itoa (valOf x : Int) ≠ x := by rw [itoa_nat (by omega), Int.toNat_natCast]; exact fun e => hcan (HDE.out.1 e)
      have HCAN : Hid (numB x = false) := Lib.hid (by unfold numB; rw [Bool.eq_false_iff.2 hcan]; rfl)
      obtain ⟨y, hy⟩ : ∃ y, Go.Lib.itoa (valOf x : Int) = y := ⟨_, rfl⟩
      rw [hy] at hit ⊢
      have hyx : (!y == x) = true := by simp [hit]
      have hyx2 : (y == x) = false := by simp [hit]
      clear hy hcan hit
      have k1 := (HS.out.ext HB3.out).cells.2
      go_wp2
      refine ⟨rfl, ?_⟩
      rw [HX.out]
      exact ⟨fun h => (by cases HCAN.out.symm.trans h), fun _ => rfl, HB3.out.mono (Nat.le_of_lt hlt)⟩
  · rw [if_neg hv] at HAT
    have HNF : Hid (numB x = false) := Lib.hid (by
      unfold numB
      rw [decide_eq_false (by omega), Bool.and_false])
    obtain ⟨_, ev, hev1, hev2⟩ := HLA.out.below HBW.out (by omega)
    refine (Tryz.strconv_Atoi_range ⟨x.toArray⟩ (by rw [HLEN.out]; omega) HAT.out ev _ hev1 hev2).mono ?_
    clear hev1 hev2
    rintro e w2 ⟨N, rfl, -, -, hb⟩
    have HB02 : Hid (Below w.heap.size w w2) := Lib.hid (HBW.out.trans (hb.mono HBW.out.size))
    clear hb
    have k1 := (HS.out.ext HB02.out).cells.2
    go_wp2
    refine ⟨rfl, ?_⟩
    rw [HX.out]
    exact ⟨fun h => (by cases HNF.out.symm.trans h), fun _ => rfl, HB02.out.mono (Nat.le_of_lt hlt)⟩
end Go.Proofs.YtfnmidddgjlipaaGreatDoor
