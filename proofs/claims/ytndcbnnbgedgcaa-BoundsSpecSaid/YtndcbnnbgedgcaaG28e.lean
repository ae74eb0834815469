/-
  Texts that stood one after the other, joined by a program (each part's own remark stands at its head below).
-/
import Derived.Test.YtndcbnnbgedgcaaG28a
import Derived.Test.YtndcbnnbgedgcaaG28b
import Derived.Test.YtndcbnnbgedgcaaF26i
import Derived.Laws.BitsAllLaws
import Derived.Laws.BitsLemmas
import Derived.Test.YtndcbnnbgedgcaaF25v
import Derived.Test.YtndcbnnbgedgcaaF25e
import Derived.Test.YtndcbnnbgedgcaaG28d
/-
  Maps of counts; the walk of bounds.Upper.
-/
set_option linter.unusedVariables false
set_option linter.unusedSimpArgs false
namespace Go.Proofs.Ytndcbnnbgedgcaa
open Go.RowKit

/-! ### bits of numbers of type int -/
theorem ofInt_i64 (a : Nat) (ha : a < 9223372036854775808) : (BitVec.ofInt 64 (a : Int)).toNat = a := by
  rw [BitVec.ofInt_natCast, BitVec.toNat_ofNat]; exact Nat.mod_eq_of_lt (by omega)
theorem i64_and_nat (a b : Nat) (ha : a < 9223372036854775808) (hb : b < 9223372036854775808) : bits .and .i64 (a : Int) (b : Int) = ((a &&& b : Nat) : Int) := by
  have hx : a &&& b < 2 ^ 63 := Nat.and_lt_two_pow _ (by omega)
  show IntKind.i64.wrap ((BitVec.ofInt 64 (a : Int) &&& BitVec.ofInt 64 (b : Int)).toNat : Int) = _
  rw [BitVec.toNat_and, ofInt_i64 a ha, ofInt_i64 b hb, IntKind.wrap_i64]
  omega
theorem i64_or_nat (a b : Nat) (ha : a < 9223372036854775808) (hb : b < 9223372036854775808) : bits .or .i64 (a : Int) (b : Int) = ((a ||| b : Nat) : Int) := by
  have hx : a ||| b < 2 ^ 63 := Nat.or_lt_two_pow (by omega) (by omega)
  show IntKind.i64.wrap ((BitVec.ofInt 64 (a : Int) ||| BitVec.ofInt 64 (b : Int)).toNat : Int) = _
  rw [BitVec.toNat_or, ofInt_i64 a ha, ofInt_i64 b hb, IntKind.wrap_i64]
  omega
theorem and_pow_zero (T k : Nat) : ((T &&& 2 ^ k : Nat) = 0) ↔ T.testBit k = false := by
  constructor
  · intro h
    have := congrArg (fun n => n.testBit k) h
    simp only [Nat.testBit_and, Nat.testBit_two_pow_self, Bool.and_true, Nat.zero_testBit] at this
    exact this
  · intro h
    apply Nat.eq_of_testBit_eq
    intro i
    rw [Nat.testBit_and, Nat.zero_testBit, Nat.testBit_two_pow]
    by_cases e : k = i
    · subst e; rw [h]; rfl
    · simp [e]
theorem and_pow (T k : Nat) (hT : T < 64) (hk : k < 6) : (bits BinOp.and IntKind.i64 (T : Int) ((2 ^ k : Nat) : Int) == 0) = !T.testBit k := by
  have hp : 2 ^ k < 2 ^ 6 := Nat.pow_lt_pow_right (by omega) hk
  rw [i64_and_nat _ _ (by omega) (by omega)]
  have h := and_pow_zero T k
  cases hb : T.testBit k
  · have := h.2 hb
    rw [this]; rfl
  · have : ¬ (T &&& 2 ^ k) = 0 := fun e => by rw [h.1 e] at hb; cases hb
    simp
    omega
theorem or_pow64 (T k : Nat) (hT : T < 64) (hk : k < 6) : bits BinOp.or IntKind.i64 (T : Int) ((2 ^ k : Nat) : Int) = ((T ||| 2 ^ k : Nat) : Int) ∧ T ||| 2 ^ k < 64 := by
  have hp : 2 ^ k < 2 ^ 6 := Nat.pow_lt_pow_right (by omega) hk
  refine ⟨i64_or_nat _ _ (by omega) (by omega), ?_⟩
  have : T ||| 2 ^ k < 2 ^ 6 := Nat.or_lt_two_pow (by omega) hp
  omega
theorem pow_wrap (k : Nat) (hk : k < 6) : IntKind.i64.wrap ((2 : Int) ^ k) = ((2 ^ k : Nat) : Int) := by
  have hp : 2 ^ k < 2 ^ 6 := Nat.pow_lt_pow_right (by omega) hk
  have e : ((2 : Int) ^ k) = ((2 ^ k : Nat) : Int) := by simp
  rw [e]
  generalize (2 ^ k : Nat) = q at hp
  exact IntWalk.i64_in _ (by omega)

/-! ### maps of counts -/
def walV (L : WL) : AL := L.map fun p => (p.1, Value.int .i64 p.2)
theorem alook_walV (x : Int) : ∀ L : WL, (alook (walV L) x).getD (.int .i64 0) = .int .i64 (wlook L x)
  | [] => rfl
  | (k, v) :: r => by
    have ih := alook_walV x r
    simp only [walV, List.map_cons, alook, wlook] at *
    split
    · rfl
    · exact ih
theorem aset_walV (x v : Int) : ∀ L : WL, aset (walV L) x (.int .i64 v) = walV (wset L x v)
  | [] => rfl
  | (k, u) :: r => by
    have ih := aset_walV x v r
    simp only [walV, List.map_cons, aset, wset] at *
    split
    · rfl
    · simp only [List.map_cons, ih]
def iterLeft (w : World) (bm r : Nat) : Nat := match w.heap[bm]?, w.heap[r]? with
  | some (.map es _), some (.mapIter _ _ seen _) => (leftOf es seen).size
  | _, _ => 0
theorem MapIter.left {w : World} {bm r : Nat} {l left : AL} (h : MapIter w bm r l left) : iterLeft w bm r = left.length := by
  obtain ⟨es, c, seen, c0, a, b, d, e, f, g⟩ := h
  unfold iterLeft
  rw [a, b]
  have := congrArg List.length g
  simpa using this
section
variable {P : Program} {w : World} {ops : Array Oper} {rest : List Oper} {o : Oper} {a : Act} {Q : Exit → Act → World → Prop}
theorem wpList_insert_ints {T K E : TypeId} {r : Nat} {l : AL} (hg : Region.wanted o (yielded ops a.tmps) = true) (m xo vo : Operand) (hop : o.op = Op.insert T m xo vo)
    (hT : P.underlying T = some (.map K E)) (hK : P.underlying K = some (.int .i64)) (hm : a.eval m = .map (some r)) (h : IntMap w r l) {x : Int} {v : Value} (hx : a.eval xo = .int .i64 x) (hv : a.eval vo = v)
    (hk : ∀ w', IntMap w' r (aset l x v) → w.grownBy w' (some r) → w'.heap.size = w.heap.size → wpList P ops Q rest (a.put o.dst undef) w') : wpList P ops Q (o :: rest) a w := by
  refine wpList_want hg fun K' hK' => ?_
  obtain ⟨w', hrun, h1, h2, h3⟩ := run_update_ints hT hK h x v
  unfold Oper.wp
  simp only [execOp, hop, hm, hx, hv]
  simp [hrun, Result.andThen]
  exact hK' _ _ (hk w' h1 h2 h3)
theorem wpList_next_done {bm r : Nat} {l left : AL} (hg : Region.wanted o (yielded ops a.tmps) = true) (it : Operand) (hop : o.op = Op.next it false) (hit : a.eval it = .pointer (some ⟨r, 0, none⟩)) (h : MapIter w bm r l left) (hne : r ≠ bm) (he : left = [])
    (hk : wpList P ops Q rest (a.put o.dst (.tuple #[.bool false])) w) : wpList P ops Q (o :: rest) a w :=
  wpList_next_ints hg it hop hit h hne (fun _ => hk) (fun A x v B w' e => by rw [he] at e; simp at e)
theorem wpList_next_more {bm r : Nat} {l : AL} {lw : WL} (hg : Region.wanted o (yielded ops a.tmps) = true) (it : Operand) (hop : o.op = Op.next it false) (hit : a.eval it = .pointer (some ⟨r, 0, none⟩)) (h : MapIter w bm r l (walV lw)) (hne : r ≠ bm) (he : lw ≠ [])
    (hk : ∀ (A : WL) (x v : Int) (B : WL) (w' : World), lw = A ++ (x, v) :: B → MapIter w' bm r l (walV (A ++ B)) → w.grownBy w' (some r) → w'.heap.size = w.heap.size →
      (Instr.entry (.pointer (some ⟨r, 0, none⟩))).run P w' = .ok (.tuple #[.int .i64 x, .int .i64 v]) w' → wpList P ops Q rest (a.put o.dst (.tuple #[.bool true, .int .i64 x, .int .i64 v])) w') : wpList P ops Q (o :: rest) a w := by
  refine wpList_next_ints hg it hop hit h hne (fun e => ?_) (fun A x v B w' e h1 h2 h3 h4 => ?_)
  · exact absurd (List.map_eq_nil_iff.1 e) he
  · have e' : (A ++ (x, v) :: B).map id = lw.map (fun p => (p.1, Value.int .i64 p.2)) := by rw [List.map_id]; exact e.symm
    obtain ⟨A', p, B', q1, q2, q3⟩ := map_split e'
    obtain ⟨x', v'⟩ := p
    simp only [id, Prod.mk.injEq] at q2
    obtain ⟨rfl, rfl⟩ := q2
    rw [List.map_id] at q3
    rw [q3] at h1
    exact hk A' x v' B' w' q1 h1 h2 h3 h4
end

end Go.Proofs.Ytndcbnnbgedgcaa

/-
  The walk of bounds.Upper.
-/
set_option linter.unusedVariables false
set_option linter.unusedSimpArgs false
namespace Go.Proofs.Ytndcbnnbgedgcaa
open Go.RowKit

def one1 : Int → Int := fun _ => 1
def gW (ends : List Int) (rows : List (List Int)) (k : Nat) (T : Int) : Int := waysM ends (rows.drop k) T.toNat

/-- what holds at the head of Upper's loop over the rows -/
def UpRel (w7 : World) (ends : List Int) (rows : List (List Int)) (k : Nat) (v : Value) (wr : World) : Prop :=
  ∃ (bm : Nat) (L : WL), v = .map (some bm) ∧ w7.heap.size ≤ bm ∧ IntMap wr bm (walV L) ∧ WOk 6 L ∧ sumBy (gW ends rows k) L = waysS rows [] ∧ sumBy one1 L ≤ 6 ^ k ∧ Below w7.heap.size w7 wr
/-- what holds at the head of Upper's loop over the sets -/
def UpRel2 (w7 : World) (ends : List Int) (rows : List (List Int)) (k bm ri bn : Nat) (L : WL) (wr : World) : Prop :=
  ∃ (lw N : WL), MapIter wr bm ri (walV L) (walV lw) ∧ WOk 6 lw ∧ IntMap wr bn (walV N) ∧ WOk 6 N ∧ sumBy (gW ends rows (k + 1)) N + sumBy (gW ends rows k) lw = waysS rows [] ∧ sumBy one1 N + 6 * sumBy one1 lw ≤ 6 ^ (k + 1) ∧ Below w7.heap.size w7 wr
/-- what holds at the head of Upper's loop over the ends of a row -/
def UpRel3 (w7 : World) (ends row : List Int) (g : Int → Int) (T v : Int) (bm ri bn : Nat) (L lw N0 : WL) (i : Nat) (wr : World) : Prop :=
  ∃ N : WL, MapIter wr bm ri (walV L) (walV lw) ∧ IntMap wr bn (walV N) ∧ WOk 6 N ∧ sumBy g N = sumBy g N0 + giveTo ends row g T v i ∧ sumBy one1 N = sumBy one1 N0 + giveTo ends row one1 T v i ∧ Below w7.heap.size w7 wr
/-- what holds at the head of Upper's loop over the last map -/
def UpRel4 (w7 : World) (bm ri : Nat) (L : WL) (vt : Value) (wr : World) : Prop :=
  ∃ lw : WL, MapIter wr bm ri (walV L) (walV lw) ∧ WOk 6 lw ∧ sumBy one1 lw ≤ sumBy one1 L ∧ vt = .int .i64 (sumBy one1 L - sumBy one1 lw) ∧ Below w7.heap.size w7 wr
theorem WOk.mid {c : Nat} {A B : WL} {p : Int × Int} (h : WOk c (A ++ p :: B)) : WOk c (A ++ B) ∧ 0 ≤ p.1 ∧ p.1 < (2 : Int) ^ c ∧ 0 ≤ p.2 :=
  ⟨fun q hq => h q (by rcases List.mem_append.1 hq with hq | hq <;> simp [hq]), h p (by simp)⟩
theorem giveTo_le {ends row : List Int} {T v : Int} (hv : 0 ≤ v) {i : Nat} (hi : i ≤ 6) : 0 ≤ giveTo ends row one1 T v i ∧ giveTo ends row one1 T v i ≤ 6 * v := giveTo_one hv i hi
theorem sum_ge {c : Nat} {L : WL} (h : WOk c L) : 0 ≤ sumBy one1 L := (wlook_le_sum h 0).2

theorem IntMap.grownB {w w' : World} {r : Nat} {l : AL} {row : Option Nat} (h : IntMap w r l) (hg : w.grownBy w' row) (hr : some r ≠ row) : IntMap w' r l := by
  obtain ⟨es, c, a, rest⟩ := h
  exact ⟨es, c, (hg.block r (Array.getElem?_eq_some_iff.1 a).1 hr).trans a, rest⟩
theorem sumBy_zero_of_nil {g : Int → Int} {L : WL} (h : L = []) : sumBy g L = 0 := by rw [h]; rfl
theorem gW_end (ends : List Int) (rows : List (List Int)) (T : Int) : gW ends rows rows.length T = 1 := by
  unfold gW; rw [List.drop_length]; rfl
theorem sumBy_gW_end (ends : List Int) (rows : List (List Int)) (L : WL) : sumBy (gW ends rows rows.length) L = sumBy one1 L := by
  unfold sumBy one1; simp only [gW_end]
theorem UpRel3.skip {w7 : World} {ends row : List Int} {g : Int → Int} {T v : Int} {bm ri bn : Nat} {L lw N0 : WL} {i : Nat} {wr : World} (h : UpRel3 w7 ends row g T v bm ri bn L lw N0 i wr) (hi : i < row.length)
    (ht : T.toNat.testBit (ends.idxOf (nth row i)) = true) : UpRel3 w7 ends row g T v bm ri bn L lw N0 (i + 1) wr := by
  obtain ⟨N, h1, h2, h3, h4, h5, h6⟩ := h
  refine ⟨N, h1, h2, h3, ?_, ?_, h6⟩
  · rw [h4, giveTo_succ hi, ht]; simp
  · rw [h5, giveTo_succ hi, ht]; simp
theorem UpRel3.add {w7 : World} {ends row : List Int} {g : Int → Int} {T v : Int} {bm ri bn : Nat} {L lw N0 N : WL} {i : Nat} {wr w' : World}
    (h1 : MapIter wr bm ri (walV L) (walV lw)) (h3 : WOk 6 N) (h4 : sumBy g N = sumBy g N0 + giveTo ends row g T v i) (h5 : sumBy one1 N = sumBy one1 N0 + giveTo ends row one1 T v i) (h6 : Below w7.heap.size w7 wr)
    (hi : i < row.length) (hv : 0 ≤ v) {U : Int} (hU : U = ((T.toNat ||| 2 ^ ends.idxOf (nth row i) : Nat) : Int)) (hU2 : U < 64) (ht : T.toNat.testBit (ends.idxOf (nth row i)) = false)
    (hm : IntMap w' bn (walV (wset N U (wlook N U + v)))) (hg : wr.grownBy w' (some bn)) (hne : bm ≠ bn) (hne2 : ri ≠ bn) (hbn : w7.heap.size ≤ bn) :
    UpRel3 w7 ends row g T v bm ri bn L lw N0 (i + 1) w' := by
  have hU0 : 0 ≤ U := by rw [hU]; exact Int.natCast_nonneg _
  refine ⟨_, h1.kept hg (by simpa using hne) (by simpa using hne2), hm, WOk.wset h3 hU0 (by simpa using hU2) (by have := wlook_ge h3 U; omega), ?_, ?_, h6.grown hg h6.size (fun j hj => by cases hj; exact hbn)⟩
  · rw [sumBy_wset, h4, giveTo_succ hi, ht, hU]; simp; omega
  · rw [sumBy_wset, h5, giveTo_succ hi, ht, hU]; simp; omega

set_option maxHeartbeats 8000000 in
set_option maxRecDepth 100000 in
/-- bounds.Upper -/
theorem bupper_any (B : Nat) (w : World) (vs vl : Value) (f : Flow) (hf : IsFlow B w vs vl f) (hB : B ≤ w.heap.size) (h6 : f.senders ≤ 6 ∨ 12 < f.senders) :
    Calls Try.prog 27 #[.agg #[vs, vl]] w fun e w' => e = .returned (.tuple #[.int .i64 (upperR f), .int .i64 (upperE f)]) ∧ Below w.heap.size w w' := by
  have HF := Lib.hid hf
  obtain ⟨rfl, ⟨hs1, hs2⟩, hl⟩ := hf
  obtain ⟨b, off, cap, ⟨a, rfl, hcap, hmax, ha⟩, hlen, hc⟩ := hl
  clear hc ha
  have HC := Lib.hid (fun o => fcheck_any B (w.alloc o) _ _ f (HF.out.below (box_below hB o) (Nat.le_refl _)) (by simp; omega))
  have HER : Hid (upperE f = if checkE f ≠ 0 then checkE f else if 12 < f.senders then 2 else 0) := Lib.hid rfl
  have HRR : Hid (upperR f = if upperE f = 0 then waysS (rowsOf f) [] else 0) := Lib.hid rfl
  obtain ⟨ue, hue⟩ : ∃ x, upperE f = x := ⟨_, rfl⟩
  obtain ⟨ur, hur⟩ : ∃ x, upperR f = x := ⟨_, rfl⟩
  rw [hue] at HER HRR
  rw [hur] at HRR
  rw [hue, hur]
  clear hue hur
  have hmm := @run_makeMap Try.prog
  go_enter Try.func27, Try.ntmps27
  go_wp2_with fail
  refine (HC.out _).mono ?_
  rintro e w5 ⟨rfl, hb5⟩
  have HX5 := Lib.hid ((Box.new w #[.int .i64 f.senders, .slice a f.lots.length cap] 24).ext hb5)
  have HW5 : Hid (Below w.heap.size w w5) := Lib.hid ((box_below (Nat.le_refl _) _).trans (hb5.mono (by simp)))
  clear hb5
  obtain ⟨z5, r5⟩ := HX5.out
  by_cases h1 : checkE f = 0
  · have h1' : (checkE f != 0) = false := by simpa using h1
    have H1 := Lib.hid h1
    have HE1 : Hid (ue = if 12 < f.senders then 2 else 0) := Lib.hid (by rw [HER.out, if_neg (by simp [h1])])
    clear h1
    by_cases h2 : 12 < f.senders
    · have h2' : decide (12 < f.senders) = true := decide_eq_true h2
      have HE : Hid (ue = 2) := Lib.hid (by rw [HE1.out, if_pos h2])
      have HR : Hid (ur = 0) := Lib.hid (by rw [HRR.out, HE.out]; rfl)
      go_wp2
      go_ret2
      exact ⟨by rw [HE.out, HR.out]; rfl, HW5.out⟩
    · have h2' : decide (12 < f.senders) = false := decide_eq_false h2
      have HE : Hid (ue = 0) := Lib.hid (by rw [HE1.out, if_neg h2])
      have HR : Hid (ur = waysS (rowsOf f) []) := Lib.hid (by rw [HRR.out, HE.out]; rfl)
      have hs6 : f.senders ≤ 6 := by omega
      have HMR := Lib.hid (matR_ok H1.out)
      have HER2 : Hid (endsR f = endsL f) := Lib.hid (by unfold endsR; rw [if_pos H1.out])
      go_wp2_with fail
      refine (rmatrix_any B w5 _ _ f (HF.out.below HW5.out hB) (by have := HW5.out.size; omega)).mono ?_
      rintro e w6 ⟨vm, rfl, hom, hb6⟩
      rw [HMR.out] at hom
      have HW6 : Hid (Below w.heap.size w w6) := Lib.hid (HW5.out.trans (hb6.mono HW5.out.size))
      have HX6 := Lib.hid (HX5.out.ext hb6)
      have HOM6 := Lib.hid hom
      clear hb6 hom z5 r5
      obtain ⟨z6, r6⟩ := HX6.out
      go_wp2_with fail
      refine (fEnds_any B w6 _ _ f (HF.out.below HW6.out hB) (by have := HW6.out.size; omega)).mono ?_
      rintro e w7 ⟨ve, rfl, hoe, hb7⟩
      rw [HER2.out] at hoe
      have HW7 : Hid (Below w.heap.size w w7) := Lib.hid (HW6.out.trans (hb7.mono HW6.out.size))
      have HMM := Lib.hid ((HOM6.out.below hb7).isMat)
      have HEE := Lib.hid hoe.isInts
      have HRL := Lib.hid (rowsOf_le H1.out hs6)
      have HRI := Lib.hid (rowsOf_in (f := f))
      have hrn : (rowsOf f).length ≤ 6 := by rw [rowsOf_len]; omega
      have hen : (endsL f).length ≤ 6 := by have := ends_count H1.out; omega
      have HND : Hid (endsL f).Nodup := Lib.hid (endsTo_nodup f _)
      obtain ⟨rows, hrows⟩ : ∃ r, rowsOf f = r := ⟨_, rfl⟩
      obtain ⟨ends, hends⟩ : ∃ r, endsL f = r := ⟨_, rfl⟩
      rw [hrows] at HR HMM HRL HRI hrn
      rw [hends] at HEE HRI hen HND
      clear hb7 hoe z6 r6 hrows hends
      have HG0 : Hid (sumBy (gW ends rows 0) [(0, 1)] = waysS rows []) := Lib.hid (by
        simp only [sumBy, gW, List.map_cons, List.map_nil, List.sum_cons, List.sum_nil, List.drop_zero]
        have h := waysM_eq HND.out rows 0 [] HRI.out (fun x _ => by simp [hasB])
        show 1 * waysM ends rows 0 + 0 = _
        rw [h]
        omega)
      obtain ⟨ae, ne, ce, rfl⟩ : ∃ a n c, ve = .slice a n c := by obtain ⟨_, _, c, ⟨a, e, _⟩, _⟩ := HEE.out; exact ⟨a, _, c, e⟩
      obtain ⟨bm0, om0, cm0, ⟨am0, rfl, hcm0, hmm0, ham0⟩, hlm0, hcc0⟩ := HMM.out
      have HCM := Lib.hid hcc0
      have HAM := Lib.hid ham0
      clear hcc0 ham0
      go_wp2_with (refine wpList_insert_ints rfl (.tmp 41) (.const (.int .i64 0)) (.const (.int .i64 1)) rfl Try.underlying75 Try.underlying3 rfl (IntMap.made w7) (x := 0) (v := .int .i64 1) rfl rfl ?_; intro w8 hm8 hg8 hz8; have HM8 := Lib.hid hm8; have HB8 : Hid (Below w7.heap.size w7 w8) := Lib.hid ((box_below' w7 (.map #[] 0)).grown hg8 (by simp) (fun j hj => by cases hj; exact Nat.le_refl _)); clear hm8 hg8 hz8)
      have HREL : Hid (UpRel w7 ends rows 0 (.map (some w7.heap.size)) w8) := Lib.hid ⟨w7.heap.size, [(0, 1)], rfl, Nat.le_refl _, HM8.out, fun p hp => by simp at hp; subst hp; simp, HG0.out, by simp [sumBy, one1], HB8.out⟩
      go_loopw [6, 45] (fun vm vi wr => ∃ k : Nat, k ≤ rows.length ∧ vi = .int .i64 k ∧ UpRel w7 ends rows k vm wr) (fun _ vi _ => rows.length - (intOf vi).toNat)
      case atStart => exact ⟨0, by omega, rfl, HREL.out⟩
      case round =>
        obtain ⟨k, hk, rfl, bm, L, rfl, hbm, hmp, hok, hsg, hs1', hbl⟩ := hrel
        have HMP := Lib.hid hmp
        have HOK := Lib.hid hok
        have HSG := Lib.hid hsg
        have HS1 := Lib.hid hs1'
        have HBL := Lib.hid hbl
        clear HREL HG0 hmp hok hsg hs1' hbl
        by_cases hlt : k < rows.length
        · obtain rfl : am0 = some ⟨bm0, om0, none⟩ := by rcases HAM.out with ha | ha; exact ha; omega
          obtain ⟨vr, hcr, hrow⟩ := HCM.out k hlt
          have rc := (HBL.out.cell (p := ⟨bm0, om0 + k, none⟩) hcr.1).trans hcr.2
          have HDR := Lib.hid (drop_row hlt)
          have hrl := HRL.out _ (rowAt_in hlt)
          have HRIN := Lib.hid (HRI.out _ (rowAt_in hlt))
          obtain ⟨row, hrw⟩ : ∃ r, rowAt rows k = r := ⟨_, rfl⟩
          rw [hrw] at hrow HDR hrl HRIN
          have HROW := Lib.hid hrow
          obtain ⟨br, or_, cr, ⟨ar, rfl, hcr', hmr', har⟩, hlr, hzr, hccr⟩ := hrow
          have HCR := Lib.hid hccr
          have HAR := Lib.hid har
          have HGK : Hid (∀ T v : Int, v * gW ends rows k T = giveTo ends row (gW ends rows (k + 1)) T v row.length) := Lib.hid fun T v => by
            unfold gW
            rw [HDR.out]
            exact giveTo_ways.symm
          have hp6 := pow6_le (show k + 1 ≤ 6 by omega)
          have hbmr := HMP.out.lt
          clear hcr hrw hccr har hzr
          go_wp2_with (refine wpList_range_ints rfl (.tmp 50) rfl Try.underlying75 rfl (HMP.out.alloc _) ?_; intro w9 hit9 hb9 hz9; have HIT9 := Lib.hid hit9; have HB9 := Lib.hid hb9; have HZ9 := Lib.hid hz9; clear hit9 hb9 hz9)
          have HR2 : Hid (UpRel2 w7 ends rows k bm (wr.alloc (.map #[] 0)).heap.size wr.heap.size L w9) := Lib.hid (by
            refine ⟨L, [], HIT9.out, HOK.out, (IntMap.made wr).ext HB9.out, fun p hp => by simp at hp, ?_, ?_, (HBL.out.alloc HBL.out.size _).trans (HB9.out.mono (by have := HBL.out.size; simp; omega))⟩
            · rw [HSG.out]; simp [sumBy]
            · have := HS1.out
              have e : sumBy one1 [] = 0 := rfl
              rw [e, Int.pow_succ]
              omega)
          simp only [World.size_alloc] at HR2
          have hne : wr.heap.size + 1 ≠ bm := by omega
          have hnn : wr.heap.size ≠ bm ∧ w7.heap.size ≤ wr.heap.size := by have := HBL.out.size; omega
          clear HIT9 HB9 HZ9 rc
          obtain ⟨wA, rfl⟩ : ∃ W, W = wr := ⟨_, rfl⟩
          go_loopw [] (fun W => UpRel2 w7 ends rows k bm (wA.heap.size + 1) wA.heap.size L W) (fun W => iterLeft W bm (wA.heap.size + 1))
          case atStart => exact HR2.out
          case round =>
            obtain ⟨lw, N, hit, hokw, hmn, hokn, hsg2, hs2, hbl2⟩ := hrel
            have HIT := Lib.hid hit
            have HLEFT := Lib.hid hit.left
            have HOKW := Lib.hid hokw
            have HMN := Lib.hid hmn
            have HOKN := Lib.hid hokn
            have HSG2 := Lib.hid hsg2
            have HS2 := Lib.hid hs2
            have HBL2 := Lib.hid hbl2
            clear HR2 hit hokw hmn hokn hsg2 hs2 hbl2
            by_cases hlw : lw = []
            · go_wp2_with (refine wpList_next_done rfl (.tmp 51) rfl rfl HIT.out hne (by rw [hlw]; rfl) ?_)
              go_roundw
              case rel =>
                refine ⟨k + 1, by omega, by go_num, _, N, rfl, hnn.2, HMN.out, HOKN.out, ?_, ?_, HBL2.out⟩
                · have h := HSG2.out
                  have e : sumBy (gW ends rows k) lw = 0 := by rw [hlw]; rfl
                  omega
                · have h := HS2.out
                  have e : sumBy one1 lw = 0 := by rw [hlw]; rfl
                  omega
              case measure => simp [intOf]; omega
            · go_wp2_with (refine wpList_next_more rfl (.tmp 51) rfl rfl HIT.out hne hlw ?_; intro A x v B w3 hlw2 hit3 hg3 hz3 hen; have HIT3 := Lib.hid hit3; have HG3 := Lib.hid hg3; clear hit3 hg3 hz3)
              obtain ⟨hokr, hx0, hx1, hv0⟩ := WOk.mid (hlw2 ▸ HOKW.out)
              simp only at hx0 hx1 hv0
              obtain ⟨T, rfl⟩ : ∃ T : Nat, x = T := ⟨x.toNat, by omega⟩
              have hT : T < 64 := by omega
              have HOKR := Lib.hid hokr
              have HSM1 : Hid (sumBy one1 lw = sumBy one1 (A ++ B) + v) := Lib.hid (by rw [hlw2, sumBy_mid]; simp [one1])
              have HSMG : Hid (sumBy (gW ends rows k) lw = sumBy (gW ends rows k) (A ++ B) + giveTo ends row (gW ends rows (k + 1)) T v row.length) := Lib.hid (by rw [hlw2, sumBy_mid, ← HGK.out])
              have HLEN : Hid ((walV (A ++ B)).length < (walV lw).length) := Lib.hid (by rw [hlw2]; simp [walV])
              have HR3 : Hid (UpRel3 w7 ends row (gW ends rows (k + 1)) T v bm (wA.heap.size + 1) wA.heap.size L (A ++ B) N 0 w3) := Lib.hid (by
                refine ⟨N, HIT3.out, IntMap.grownB HMN.out HG3.out (by simp), HOKN.out, by simp [giveTo], by simp [giveTo], HBL2.out.grown HG3.out HBL2.out.size (fun j hj => by cases hj; omega)⟩)
              have HNV : Hid (0 ≤ sumBy one1 N ∧ sumBy one1 N + 6 * v ≤ 46656) := Lib.hid (by
                have h1 := sum_ge HOKN.out
                have h2 := sum_ge hokr
                have h3 := HSM1.out
                have h4 := HS2.out
                omega)
              obtain ⟨g, hg⟩ : ∃ g, gW ends rows (k + 1) = g := ⟨_, rfl⟩
              rw [hg] at HR3 HSMG HSG2
              have HGG := Lib.hid hg
              clear hg hokr hen HIT3 HG3 HMN hlw2
              go_loopw [59] (fun vi W => ∃ i : Nat, i ≤ row.length ∧ vi = .int .i64 i ∧ UpRel3 w7 ends row g T v bm (wA.heap.size + 1) wA.heap.size L (A ++ B) N i W) (fun vi _ => row.length - (intOf vi).toNat)
              case atStart => exact ⟨0, by omega, rfl, HR3.out⟩
              case round =>
                obtain ⟨i, hi, rfl, N3, hit3, hmn3, hok3, hsg3, hs3, hbl3⟩ := hrel
                have HIT3 := Lib.hid hit3
                have HMN3 := Lib.hid hmn3
                have HOK3 := Lib.hid hok3
                have HSG3 := Lib.hid hsg3
                have HS3 := Lib.hid hs3
                have HBL3 := Lib.hid hbl3
                clear HR3 hit3 hmn3 hok3 hsg3 hs3 hbl3
                by_cases hin : i < row.length
                · obtain rfl : ar = some ⟨br, or_, none⟩ := by rcases HAR.out with ha | ha; exact ha; omega
                  have c4 := (HBL3.out.cell (p := ⟨br, or_ + i, none⟩) (HCR.out i hin).1).trans (HCR.out i hin).2
                  have hmem := HRIN.out _ (nth_mem hin)
                  have hidx : idxI ends (nth row i) = (ends.idxOf (nth row i) : Int) := by unfold idxI; rw [if_pos hmem]
                  have hil : ends.idxOf (nth row i) < 6 := by have := List.idxOf_lt_length_iff.2 hmem; omega
                  have HSK := Lib.hid (fun (h : UpRel3 w7 ends row g T v bm (wA.heap.size + 1) wA.heap.size L (A ++ B) N i wr) ht => h.skip hin ht)
                  have HAD := Lib.hid (fun (U : Int) (w' : World) => @UpRel3.add w7 ends row g T v bm (wA.heap.size + 1) wA.heap.size L (A ++ B) N N3 i wr w' HIT3.out HOK3.out HSG3.out HS3.out HBL3.out hin hv0 U)
                  have HSL : Hid (0 ≤ giveTo ends row one1 T v i ∧ giveTo ends row one1 T v i ≤ 6 * v) := Lib.hid (giveTo_le hv0 (by omega))
                  have hTT : (T : Int).toNat = T := by omega
                  rw [hTT] at HSK HAD
                  have HSI := Lib.hid (sindex_any w7.heap.size wr _ ends (nth row i) (HEE.out.below HBL3.out (Nat.le_refl _)))
                  rw [hidx] at HSI
                  obtain ⟨y, hy⟩ : ∃ y, nth row i = y := ⟨_, rfl⟩
                  rw [hy] at c4 hil HSI HSK HAD
                  obtain ⟨kx, hkx⟩ : ∃ n, ends.idxOf y = n := ⟨_, rfl⟩
                  rw [hkx] at hil HSI HSK HAD
                  clear hy hkx hmem hidx hTT
                  go_wp2_with fail
                  refine HSI.out.mono ?_
                  rintro e w9 ⟨rfl, hw9⟩
                  rw [hw9]
                  clear hw9
                  have hpw := pow_wrap kx hil
                  have hand := and_pow T kx hT hil
                  obtain ⟨hor, hor64⟩ := or_pow64 T kx hT hil
                  have HU2 : Hid (((T ||| 2 ^ kx : Nat) : Int) < 64) := Lib.hid (by omega)
                  obtain ⟨U, hU⟩ : ∃ U, T ||| 2 ^ kx = U := ⟨_, rfl⟩
                  rw [hU] at hor HAD HU2
                  obtain ⟨q, hq⟩ : ∃ q : Nat, 2 ^ kx = q := ⟨_, rfl⟩
                  rw [hq] at hpw hand hor
                  clear hU hq hor64
                  cases htb : T.testBit kx
                  · rw [htb] at hand
                    have hand' : (bits BinOp.and IntKind.i64 (T : Int) (q : Int) == 0) = true := hand
                    obtain ⟨lk, hlk⟩ : ∃ x, wlook N3 U = x := ⟨_, rfl⟩
                    have hlk2 := wlook_ge HOK3.out U
                    have hlk3 := (wlook_le_sum HOK3.out U).1
                    have HLK : Hid ((alook (walV N3) (U : Int)).getD (.int .i64 0) = .int .i64 lk) := Lib.hid (by rw [alook_walV, hlk])
                    have hws : IntKind.i64.wrap (lk + v) = lk + v := IntWalk.i64_in _ (by
                      have h1 := HS3.out
                      have h2 := HSL.out
                      have h3 := HNV.out
                      have h4 : sumBy (fun _ => 1) N3 = sumBy one1 N3 := rfl
                      omega)
                    have HAS := Lib.hid (aset_walV (U : Int) (lk + v) N3)
                    have HAD2 := Lib.hid (HAD.out U)
                    rw [hlk] at HAD2
                    clear hlk hlk2 hlk3 hand
                    obtain ⟨sv, hsv⟩ : ∃ x, lk + v = x := ⟨_, rfl⟩
                    rw [hsv] at hws HAS HAD2
                    go_wp2_with (first
                      | (at_lookup; refine wpList_lookup_ints rfl (.tmp 71) (.tmp 74) false rfl Try.underlying75 Try.underlying3 (Try.zeroValue3 _) rfl HMN3.out (x := (U : Int)) rfl ?_; rw [HLK.out])
                      | (at_mapUpdate; refine wpList_update_ints rfl (.tmp 71) (.tmp 74) (.tmp 77) rfl Try.underlying75 Try.underlying3 rfl HMN3.out (x := (U : Int)) (v := .int .i64 sv) rfl rfl ?_; intro w8 hm8 hg8 hz8; have HM8 := Lib.hid hm8; have HG8 := Lib.hid hg8; clear hm8 hg8 hz8))
                    rw [HAS.out] at HM8
                    go_roundw
                    case rel => exact ⟨i + 1, by omega, by go_num, HAD2.out w8 (by first | rfl | trivial) HU2.out htb HM8.out HG8.out (by omega) (by omega) (by omega)⟩
                    case measure => simp [intOf]; omega
                  · rw [htb] at hand
                    have hand' : (bits BinOp.and IntKind.i64 (T : Int) (q : Int) == 0) = false := hand
                    clear hand
                    go_wp2
                    go_roundw
                    case rel => exact ⟨i + 1, by omega, by go_num, HSK.out ⟨N3, HIT3.out, HMN3.out, HOK3.out, HSG3.out, HS3.out, HBL3.out⟩ htb⟩
                    case measure => simp [intOf]; omega
                · obtain rfl : i = row.length := by omega
                  go_wp2
                  go_roundw
                  case rel =>
                    refine ⟨A ++ B, N3, HIT3.out, HOKR.out, HMN3.out, HOK3.out, ?_, ?_, HBL3.out⟩
                    · rw [HGG.out]
                      have h1 := HSG3.out
                      have h2 := HSMG.out
                      have h3 := HSG2.out
                      omega
                    · have h1 := HS3.out
                      have h2 := HSM1.out
                      have h3 := HS2.out
                      have h4 := giveTo_le (ends := ends) (row := row) (T := T) hv0 hrl
                      omega
                  case measure => have h1 := HIT3.out.left; have h2 := HLEFT.out; have h3 := HLEN.out; omega
        · obtain rfl : k = rows.length := by omega
          have HSE : Hid (sumBy one1 L = waysS rows []) := Lib.hid (by rw [← HSG.out, sumBy_gW_end])
          have hSB : Hid (0 ≤ sumBy one1 L ∧ sumBy one1 L ≤ 46656) := Lib.hid (by
            have h1 := sum_ge HOK.out
            have h2 := HS1.out
            have h3 := pow6_le hrn
            omega)
          clear HRL HRI
          go_wp2_with (refine wpList_range_ints rfl (.tmp 81) rfl Try.underlying75 rfl HMP.out ?_; intro w9 hit9 hb9 hz9; have HIT9 := Lib.hid hit9; have HB9 := Lib.hid hb9; clear hit9 hb9 hz9)
          have hne : wr.heap.size ≠ bm := by have := HMP.out.lt; omega
          have HR4 : Hid (UpRel4 w7 bm wr.heap.size L (.int .i64 0) w9) := Lib.hid ⟨L, HIT9.out, HOK.out, by omega, by simp, HBL.out.trans (HB9.out.mono HBL.out.size)⟩
          obtain ⟨wA, rfl⟩ : ∃ W, W = wr := ⟨_, rfl⟩
          clear HIT9
          go_simp
          go_loopw [2] (fun vt W => UpRel4 w7 bm wA.heap.size L vt W) (fun _ W => iterLeft W bm wA.heap.size)
          case atStart => exact HR4.out
          case round =>
            obtain ⟨lw, hit, hokw, hle, hvt, hbl2⟩ := hrel
            have HLE := Lib.hid hle
            clear hle
            have HIT := Lib.hid hit
            have HLEFT := Lib.hid hit.left
            have HOKW := Lib.hid hokw
            have HBL2 := Lib.hid hbl2
            obtain ⟨tv, htv⟩ : ∃ x, sumBy one1 L - sumBy one1 lw = x := ⟨_, rfl⟩
            have HTV := Lib.hid htv
            rw [htv] at hvt
            subst hvt
            clear HR4 hit hokw hbl2 htv
            by_cases hlw : lw = []
            · have HFIN : Hid (waysS rows [] = tv) := Lib.hid (by have h1 := HTV.out; have h2 := HSE.out; rw [sumBy_zero_of_nil hlw] at h1; omega)
              have HNIL : Hid (walV lw = []) := Lib.hid (by rw [hlw]; rfl)
              clear hlw
              go_wp2_with (refine wpList_next_done rfl (.tmp 82) rfl rfl HIT.out hne HNIL.out ?_)
              go_ret2
              exact ⟨by rw [HE.out, HR.out, HFIN.out]; rfl, HW7.out.trans (HBL2.out.mono HW7.out.size)⟩
            · have HNN : Hid (lw ≠ []) := Lib.hid hlw
              clear hlw
              go_wp2_with (refine wpList_next_more rfl (.tmp 82) rfl rfl HIT.out hne HNN.out ?_; intro A x v B w3 hlw2 hit3 hg3 hz3 hen; have HIT3 := Lib.hid hit3; have HG3 := Lib.hid hg3; have HLW2 := Lib.hid hlw2; clear hit3 hg3 hz3 hlw2)
              obtain ⟨hokr, hx0, hx1, hv0⟩ := WOk.mid (HLW2.out ▸ HOKW.out)
              have HSM1 : Hid (sumBy one1 lw = sumBy one1 (A ++ B) + v) := Lib.hid (by rw [HLW2.out, sumBy_mid]; simp [one1])
              have HRW : Hid (IntKind.i64.wrap (tv + v) = tv + v) := Lib.hid (IntWalk.i64_in _ (by
                have h1 := HTV.out
                have h2 := HSM1.out
                have h3 := hSB.out
                have h4 := sum_ge hokr
                have h5 := HLE.out
                simp only at hv0
                omega))
              go_roundw
              case rel =>
                refine ⟨A ++ B, HIT3.out, hokr, by have h1 := HSM1.out; have h2 := HLE.out; simp only at hv0; omega, ?_, HBL2.out.grown HG3.out HBL2.out.size (fun j hj => by cases hj; have := HBL.out.size; omega)⟩
                have h1 := HRW.out
                have h2 := HTV.out
                have h3 := HSM1.out
                rw [IntWalk.i64_left] at h1
                rw [h1]
                congr 1
                omega
              case measure => have h1 := HIT3.out.left; have h2 := HLEFT.out; rw [h1, h2, HLW2.out]; simp [walV]
  · have HE : Hid (ue = checkE f) := Lib.hid (by rw [HER.out, if_pos h1])
    have HR : Hid (ur = 0) := Lib.hid (by rw [HRR.out, HE.out, if_neg h1])
    have h1' : (checkE f != 0) = true := by simpa using h1
    clear h1
    go_wp2
    go_ret2
    exact ⟨by rw [HE.out, HR.out]; rfl, HW5.out⟩

end Go.Proofs.Ytndcbnnbgedgcaa

/-
  The walk of frankinglaw28.is, where all answers agree.
-/
set_option linter.unusedVariables false
set_option linter.unusedSimpArgs false
namespace Go.Proofs.Ytndcbnnbgedgcaa
open Go.RowKit

/-- the answers of bounds on a flow are these -/
def IsAll (f : Flow) (e n : Int) (l : List Int) : Prop :=
  checkE f = 0 ∧ upperE f = 0 ∧ upperR f = e ∧ lowerE f = 0 ∧ lowerR f = n ∧ lowerL f = l ∧ bcheckR f n l = true ∧ bcheckR f (n + 1) l = false

set_option maxHeartbeats 2000000 in
set_option maxRecDepth 100000 in
/-- frankinglaw28.is -/
theorem isall_any (B : Nat) (w : World) (vs vl vx : Value) (f : Flow) (e0 n : Int) (l : List Int) (hf : IsFlow B w vs vl f) (hx : IsInts B w vx l) (hB : B ≤ w.heap.size) (h6 : f.senders ≤ 6 ∨ 12 < f.senders) (hl9 : l.length ≤ 1000) (hn0 : 0 ≤ n) (hn1 : n ≤ 1000) (hall : IsAll f e0 n l) :
    Calls Try.prog 54 #[.agg #[vs, vl], .int .i64 e0, .int .i64 n, vx] w fun e w' => e = .returned (.bool true) ∧ Below w.heap.size w w' := by
  have HF := Lib.hid hf
  have HX0 := Lib.hid hx
  obtain ⟨k1, k2, k3, k4, k5, k6, k7, k8⟩ := hall
  obtain ⟨rfl, ⟨hs1, hs2⟩, hl⟩ := hf
  obtain ⟨b, off, cap, ⟨a, rfl, hcap, hmax, ha⟩, hlen, hc⟩ := hl
  obtain ⟨b1, off1, cap1, ⟨a1, rfl, hcap1, hmax1, ha1⟩, hlen1, hz1, hc1⟩ := hx
  have hw1 : IntKind.i64.wrap (n + 1) = n + 1 := IntWalk.i64_in _ (by omega)
  have HK := Lib.hid (And.intro k1 (And.intro k2 (And.intro k3 (And.intro k4 (And.intro k5 (And.intro k6 (And.intro k7 k8)))))))
  clear hc ha hc1 ha1 hz1 k1 k2 k3 k4 k5 k6 k7 k8
  go_enter Try.func54, Try.ntmps54
  go_wp2_with fail
  have HX1 := Lib.hid (Box.new w #[.int .i64 f.senders, .slice a f.lots.length cap] 24)
  have HW1 : Hid (Below w.heap.size w _) := Lib.hid (box_below (Nat.le_refl _) (.cells #[.int .i64 f.senders, .slice a f.lots.length cap] 24))
  refine (bupper_any B _ _ _ f (HF.out.below HW1.out hB) (by have := HW1.out.size; omega) h6).mono ?_
  rintro e w2 ⟨rfl, hb2⟩
  rw [HK.out.2.1, HK.out.2.2.1]
  have HX2 := Lib.hid (HX1.out.ext hb2)
  have HW2 : Hid (Below w.heap.size w w2) := Lib.hid (HW1.out.trans (hb2.mono HW1.out.size))
  clear hb2 HX1 HW1
  obtain ⟨z2, r2⟩ := HX2.out
  go_wp2_with fail
  refine (blower_any B w2 _ _ f (HF.out.below HW2.out hB) (by have := HW2.out.size; omega)).mono ?_
  rintro e w3 ⟨v3, rfl, ho3, hb3⟩
  rw [HK.out.2.2.2.1, HK.out.2.2.2.2.1]
  rw [HK.out.2.2.2.2.2.1] at ho3
  have HO3 := Lib.hid ho3
  obtain ⟨a3, c3, rfl, _⟩ := ho3.form
  have HX3 := Lib.hid (HX2.out.ext hb3)
  have HW3 : Hid (Below w.heap.size w w3) := Lib.hid (HW2.out.trans (hb3.mono HW2.out.size))
  clear hb3 ho3 z2 r2
  obtain ⟨z3, r3⟩ := HX3.out
  go_wp2_with fail
  refine (bcheck_any B w3 _ _ _ f n l (HF.out.below HW3.out hB) (HX0.out.below HW3.out hB) (by have := HW3.out.size; omega) hl9).mono ?_
  rintro e w4 ⟨rfl, hb4⟩
  rw [HK.out.1, HK.out.2.2.2.2.2.2.1]
  have HX4 := Lib.hid (HX3.out.ext hb4)
  have HW4 : Hid (Below w.heap.size w w4) := Lib.hid (HW3.out.trans (hb4.mono HW3.out.size))
  have HO4 := Lib.hid (HO3.out.below hb4)
  clear hb4 z3 r3 HO3
  obtain ⟨z4, r4⟩ := HX4.out
  go_wp2_with fail
  refine (bcheck_any B w4 _ _ _ f (n + 1) l (HF.out.below HW4.out hB) (HX0.out.below HW4.out hB) (by have := HW4.out.size; omega) hl9).mono ?_
  rintro e w5 ⟨rfl, hb5⟩
  rw [HK.out.1, HK.out.2.2.2.2.2.2.2]
  have HW5 : Hid (Below w.heap.size w w5) := Lib.hid (HW4.out.trans (hb5.mono HW4.out.size))
  have HO5 := Lib.hid (HO4.out.below hb5).isInts
  clear hb5 z4 r4 HO4
  go_wp2_with fail
  refine (same_any (w5.heap.size) w5 _ _ l l HO5.out ((HX0.out.below HW5.out hB).mono (by have := HW5.out.size; omega))).mono ?_
  rintro e w6 ⟨rfl, hd⟩
  have HS : Hid (sameB l l = true) := Lib.hid (by unfold sameB; simp)
  rw [HS.out]
  have HW6 : Hid (Below w.heap.size w w6) := Lib.hid (HW5.out.trans (hd.below _))
  clear hd
  go_wp2
  go_ret
  exact ⟨rfl, HW6.out⟩

def exP : Flow := ⟨3, []⟩
def exQ : Flow := ⟨2, [⟨[0, 1], true, [1, 0]⟩]⟩
def exR : Flow := ⟨3, [⟨[0, 2], false, []⟩]⟩
def exS : Flow := ⟨4, [⟨[0, 1, 2, 3], false, []⟩]⟩
def exT : Flow := ⟨4, [⟨[0, 1], false, []⟩, ⟨[2, 3], false, []⟩]⟩
def exU : Flow := ⟨3, [⟨[0, 1, 2], false, []⟩, ⟨[3, 4, 5], false, []⟩]⟩
def exV : Flow := ⟨13, []⟩
def exW : Flow := ⟨0, [⟨[], false, []⟩]⟩
instance (f : Flow) (e n : Int) (l : List Int) : Decidable (IsAll f e n l) := by unfold IsAll; infer_instance
theorem exP_all : IsAll exP 1 1 [] := by decide +kernel
theorem exQ_all : IsAll exQ 1 1 [] := by decide +kernel
theorem exR_all : IsAll exR 2 2 [0] := by decide +kernel
theorem exS_all : IsAll exS 24 24 [0] := by decide +kernel
theorem exT_all : IsAll exT 4 4 [0, 1] := by decide +kernel
theorem exU_all : IsAll exU 6 6 [1] := by decide +kernel
theorem exV_ans : upperR exV = 0 ∧ upperE exV = 2 := by decide +kernel
theorem exW_ans : lowerR exW = 0 ∧ lowerL exW = [] ∧ lowerE exW = 250 := by decide +kernel

end Go.Proofs.Ytndcbnnbgedgcaa
