/-
  Layer 3: the walk of lex.Text.
-/
import Derived.Test.YtfnmidddgjlipaaGreatDoorLx14
set_option linter.unusedVariables false
set_option linter.unusedSimpArgs false
namespace Go.Proofs.YtfnmidddgjlipaaGreatDoor
open Go.RowKit

theorem str_info : (Tryz.prog.info? 9).map (fun i => (i.zero, i.size, i.bytes)) = some (some (.string ByteArray.empty), 1, 16) := by kernel_rfl
/-- block b is a row of n strings -/
def StrRow (w : World) (b n : Nat) (p : Nat → List UInt8) : Prop := ∃ c t, w.heap[b]? = some (.cells c t (0, 0)) ∧ c.size = n ∧ ∀ i, i < n → c[i]? = some (strV (p i))
theorem StrRow.lt {w : World} {b n : Nat} {p : Nat → List UInt8} (h : StrRow w b n p) : b < w.heap.size := by obtain ⟨c, t, h, _⟩ := h; exact (Array.getElem?_eq_some_iff.1 h).1
theorem StrRow.grown {w w' : World} {b n : Nat} {p : Nat → List UInt8} {row : Option Nat} (h : StrRow w b n p) (hg : w.grownBy w' row) (hne : some b ≠ row) : StrRow w' b n p := by
  have hl := h.lt
  obtain ⟨c, t, h, r⟩ := h
  exact ⟨c, t, (hg.block b hl hne).trans h, r⟩
theorem StrRow.ext {w w' : World} {b n : Nat} {p : Nat → List UInt8} (h : StrRow w b n p) (hb : Below w.heap.size w w') : StrRow w' b n p :=
  h.grown (row := none) ⟨hb.os, hb.tape, hb.output, hb.size, fun k hk _ => hb.block k hk⟩ (by simp)
theorem StrRow.cell {w : World} {b n i : Nat} {p : Nat → List UInt8} (h : StrRow w b n p) (hi : i < n) : w.cell? ⟨b, i, none⟩ = some (strV (p i)) := by
  obtain ⟨c, t, h, _, r⟩ := h
  simp only [World.cell?, h]
  exact r i hi
theorem StrRow.free {w : World} {b n i : Nat} {p : Nat → List UInt8} (h : StrRow w b n p) : w.frozen? ⟨b, i, none⟩ = false := by
  obtain ⟨c, t, h, _⟩ := h
  simp [World.frozen?, h]
theorem StrRow.set {w : World} {b n m : Nat} {p q : Nat → List UInt8} (h : StrRow w b n p) (hm : m < n) (x : List UInt8) (hx : q m = x) (hq : ∀ i, i < n → i ≠ m → q i = p i) : StrRow (w.setCell ⟨b, m, none⟩ (strV x)) b n q := by
  obtain ⟨c, t, h, hs, r⟩ := h
  refine ⟨c.setIfInBounds m (strV x), t, by simp [World.setCell, Array.getElem?_modify, h], by simp [hs], fun i hi => ?_⟩
  by_cases e : i = m
  · subst e
    simp [hs, hi, hx]
  · rw [Array.getElem?_setIfInBounds_ne (fun h => e h.symm), r i hi, hq i hi e]
/-- make([]string, m) -/
theorem wpList_make_strs {ops : Array Oper} {rest : List Oper} {o : Oper} {a : Act} {w : World} {Q : Exit → Act → World → Prop} (hgd : o.guard = none) (l c : Operand) (hop : o.op = Op.makeSlice 32 l c)
    {m : Nat} (hl : a.eval l = .int .i64 (m : Int)) (hc : a.eval c = .int .i64 (m : Int)) (hm : m ≤ 100000)
    (h : ∀ w', StrRow w' w.heap.size m (fun _ => []) → Below w.heap.size w w' → w'.heap.size = w.heap.size + 1 → wpList Tryz.prog ops Q rest (a.put o.dst (.slice (some ⟨w.heap.size, 0, none⟩) m m)) w') : wpList Tryz.prog ops Q (o :: rest) a w := by
  obtain ⟨i0, hi, hz0, hz1, hz2⟩ := info_parts str_info
  refine wpList_plain hgd fun K hK => ?_
  have hr := run_make (P := Tryz.prog) w 32 9 i0 (.string ByteArray.empty) Tryz.underlying32 hi hz0 .i64 .i64 m m (by omega) (by omega) (by rw [hz2]; omega) (by omega)
  simp only [Int.toNat_natCast, hz1, Nat.mul_one] at hr
  unfold Oper.wp
  simp only [execOp, hop, hl, hc]
  simp [hr, Result.andThen]
  refine hK _ _ (h _ ⟨_, _, heap_alloc_new w _, by simp [madeCells], fun i hi => ?_⟩ (box_below' w _) (by simp))
  simp [madeCells, hi, Value.cells, Nat.mod_one]
  rfl

theorem joinW_eq : ∀ (l : List (List UInt8)), Go.Lib.join l [32] = joinW l
  | [] => Go.Lib.join_nil _
  | [x] => Go.Lib.join_one x _
  | x :: y :: r => by
    have ih := joinW_eq (y :: r)
    rw [Go.Lib.join_cons] at ih ⊢
    simp only [joinW, ← ih]
    simp [Go.Lib.joinTail]
theorem joinW_len {m : Nat} : ∀ (l : List (List UInt8)), (∀ x ∈ l, x.length ≤ m) → (joinW l).length ≤ l.length * (m + 1)
  | [], _ => by simp [joinW]
  | [x], h => by have := h x (by simp); simp [joinW]; omega
  | x :: y :: r, h => by
    have ih := joinW_len (m := m) (y :: r) (fun z hz => h z (by simp at hz ⊢; right; exact hz))
    have := h x (by simp)
    simp only [joinW, List.length_append, List.length_cons] at ih ⊢
    rw [Nat.add_mul (r.length + 1) 1 (m + 1), Nat.one_mul]
    omega
theorem dec_len : ∀ (k u : Nat), u < 10 ^ (k + 1) → (Go.Lib.decDigits u).length ≤ k + 1
  | 0, u, h => by
    rw [Go.Lib.decDigits, dif_pos (by simpa using h)]
    simp
  | k + 1, u, h => by
    rw [Go.Lib.decDigits]
    by_cases h1 : u < 10
    · rw [dif_pos h1]; simp
    · rw [dif_neg h1, List.length_append]
      have := dec_len k (u / 10) (by rw [Nat.pow_succ] at h; omega)
      simp
      omega
theorem txt_len {t : Tok} (hv : validB t = true) (hx : t.text.length ≤ 100000) : (txt t).length ≤ 100000 := by
  unfold txt
  by_cases hk : t.kind = 2
  · obtain ⟨h1, h2, h3⟩ := valid_num hv hk
    rw [hk, itoa_nat h2]
    have := dec_len 12 t.n.toNat (by omega)
    simp
    omega
  · have : (t.kind == 2) = false := by simpa using hk
    rw [this]
    exact hx
theorem all_valid {ts : List Tok} (h : ∀ j, j < ts.length → validB (tokAt ts j) = true) : ts.all validB = true := by
  rw [List.all_eq_true]
  intro t ht
  obtain ⟨j, hj, rfl⟩ := List.getElem_of_mem ht
  have := h j hj
  rwa [tokAt_get hj] at this
theorem not_all {ts : List Tok} {j : Nat} (hj : j < ts.length) (h : validB (tokAt ts j) = false) : ts.all validB = false := by
  rw [List.all_eq_false]
  exact ⟨ts[j], List.getElem_mem hj, by rw [← tokAt_get hj, h]; simp⟩

def wordTo (ts : List Tok) (k i : Nat) : List UInt8 := if i < k then txt (tokAt ts i) else []
theorem wordTo_succ {ts : List Tok} {k : Nat} : (wordTo ts (k + 1) k = txt (tokAt ts k)) ∧ ∀ i, i < ts.length → i ≠ k → wordTo ts (k + 1) i = wordTo ts k i := by
  unfold wordTo
  refine ⟨if_pos (by omega), fun i _ hne => ?_⟩
  by_cases h : i < k
  · rw [if_pos h, if_pos (by omega)]
  · rw [if_neg h, if_neg (by omega)]
theorem tokV_str {x : List UInt8} : strV x = .string ⟨x.toArray⟩ := rfl

set_option maxHeartbeats 2000000 in
set_option maxRecDepth 100000 in
theorem text_any (B : Nat) (w : World) (v : Value) (ts : List Tok) (hL : LaidW w) (hB : B ≤ w.heap.size) (hv : IsToks B w v ts) (hn : ts.length ≤ 100000) (hx : ∀ t ∈ ts, t.text.length ≤ 100000) :
    Calls Tryz.prog 19 #[v] w fun e w' => e = .returned (.tuple #[strV (textL ts), .int .i64 (textE ts)]) ∧ Below w.heap.size w w' := by
  obtain ⟨a, c, rfl, hc1, hc2, hc3⟩ := hv.form
  have HV := Lib.hid hv
  have HLA := Lib.hid hL
  have h4 := hL.size
  have HX := Lib.hid hx
  clear hv hL hx
  go_enter Tryz.func19, Tryz.ntmps19
  go_wp2_with (at_make; refine wpList_make_strs (m := ts.length) rfl _ _ rfl rfl rfl hn ?_; intro w3 hr3 hb3 hz3; have HR3 := Lib.hid hr3; have HB3 := Lib.hid hb3; have hz4 := Nat.le_of_eq hz3; have hz5 := Nat.le_of_eq hz3.symm; clear hr3 hb3 hz3)
  go_loopw [12] (fun i wr => ∃ k : Nat, k ≤ ts.length ∧ i = .int .i64 k ∧ (∀ j, j < k → validB (tokAt ts j) = true) ∧ StrRow wr w.heap.size ts.length (wordTo ts k) ∧ Below w.heap.size w wr ∧ w.heap.size < wr.heap.size) (fun i _ => ts.length - (intOf i).toNat)
  case atStart => exact ⟨0, by omega, rfl, fun j hj => by omega, HR3.out, HB3.out, by omega⟩
  case round =>
    obtain ⟨k, hk, rfl, hall, hrow, hbr, hltr⟩ := hrel
    have HA := Lib.hid hall
    have HRW := Lib.hid hrow
    have HBR := Lib.hid hbr
    clear hall hrow hbr
    by_cases hlt : k < ts.length
    · obtain ⟨b, off, rfl, bb, g0, g1, g2, g3⟩ := (HV.out.below HBR.out hB).cells hlt
      have HOK := Lib.hid (HV.out.ok hlt)
      have hbl : ¬ b = wr.heap.size := by omega
      have HTB := Lib.hid (CellsN.new wr #[.int .i64 (tokAt ts k).kind, strV (tokAt ts k).text, .int .i64 (tokAt ts k).n, .int .i64 (tokAt ts k).pos] 72)
      have HRA := Lib.hid (HRW.out.ext (box_below' wr (.cells #[.int .i64 (tokAt ts k).kind, strV (tokAt ts k).text, .int .i64 (tokAt ts k).n, .int .i64 (tokAt ts k).pos] 72)))
      have HBA : Hid (Below w.heap.size w (wr.alloc (.cells #[.int .i64 (tokAt ts k).kind, strV (tokAt ts k).text, .int .i64 (tokAt ts k).n, .int .i64 (tokAt ts k).pos] 72))) := Lib.hid (HBR.out.alloc (by omega) _)
      go_wp2_with fail
      refine (valid_any (tokAt ts k) _ HOK.out).mono ?_
      rintro e w7 ⟨rfl, hb⟩
      have HT7 := Lib.hid (HTB.out.ext hb)
      have HR7 := Lib.hid (HRA.out.ext hb)
      have HB7 : Hid (Below w.heap.size w w7) := Lib.hid (HBA.out.trans (hb.mono (by simp; omega)))
      have hz7 : w.heap.size < w7.heap.size := HR7.out.lt
      clear hb g0 g1 g2 g3
      have m0 := HT7.out.cell 0
      have m1 := HT7.out.cell 1
      have m2 := HT7.out.cell 2
      simp at m0 m1 m2
      cases hvb : validB (tokAt ts k) with
      | false =>
        have HT : Hid (textL ts = [] ∧ textE ts = 30) := Lib.hid (by unfold textL textE; rw [not_all hlt hvb]; exact ⟨rfl, rfl⟩)
        clear hvb
        go_wp2
        go_ret2
        exact ⟨by rw [HT.out.1, HT.out.2]; rfl, HB7.out⟩
      | true =>
        have HVB := Lib.hid hvb
        have HA2 : Hid (∀ j, j < k + 1 → validB (tokAt ts j) = true) := Lib.hid (fun j hj => by
          by_cases h : j < k
          · exact HA.out j h
          · obtain rfl : j = k := by omega
            exact HVB.out)
        clear hvb
        by_cases hk2 : (tokAt ts k).kind = 2
        · have hk2' : ((tokAt ts k).kind == 2) = true := by simpa using hk2
          obtain ⟨v1, v2, v3⟩ := valid_num HVB.out hk2
          have HTX : Hid (txt (tokAt ts k) = Go.Lib.itoa (tokAt ts k).n) := Lib.hid (by unfold txt; rw [hk2']; rfl)
          clear hk2 v1
          go_wp2_with fail
          refine (Tryz.strconv_Itoa (tokAt ts k).n (by omega) (by omega) _ (HLA.out.below HB7.out h4).1).mono ?_
          rintro e w8 ⟨rfl, q, os, hw8⟩
          have hb8 : Below w7.heap.size w7 w8 := by rw [hw8]; exact Go.Lib.below_grow _ _ (Nat.le_refl _) _ _
          have HR8 := Lib.hid (HR7.out.ext hb8)
          have HB8 : Hid (Below w.heap.size w w8) := Lib.hid (HB7.out.trans (hb8.mono (by omega)))
          rw [← HTX.out]
          clear hw8 hb8 q os
          have s0 := HR8.out.cell hlt
          have s1 := HR8.out.free (i := k)
          go_wp2
          go_roundw
          case rel => exact ⟨k + 1, by omega, by go_num, HA2.out, HR8.out.set hlt _ wordTo_succ.1 wordTo_succ.2, HB8.out.setCell (p := ⟨w.heap.size, k, none⟩) (Nat.le_refl _) _, by have := HR8.out.lt; simpa [World.setCell] using this⟩
          case measure => simp [intOf]; omega
        · have hk2' : ((tokAt ts k).kind == 2) = false := by simpa using hk2
          have HTX : Hid (txt (tokAt ts k) = (tokAt ts k).text) := Lib.hid (by unfold txt; rw [hk2']; rfl)
          clear hk2
          have s0 := HR7.out.cell hlt
          have s1 := HR7.out.free (i := k)
          go_wp2
          go_roundw
          case rel => exact ⟨k + 1, by omega, by go_num, HA2.out, HR7.out.set hlt _ (wordTo_succ.1.trans HTX.out) wordTo_succ.2, HB7.out.setCell (p := ⟨w.heap.size, k, none⟩) (Nat.le_refl _) _, by simpa [World.setCell] using hz7⟩
          case measure => simp [intOf]; omega
    · obtain rfl : k = ts.length := by omega
      have HALL := Lib.hid (all_valid HA.out)
      have HT : Hid (textL ts = joinW (ts.map txt) ∧ textE ts = 0) := Lib.hid (by unfold textL textE; rw [HALL.out]; exact ⟨rfl, rfl⟩)
      go_wp2_with fail
      by_cases h0 : ts.length = 0
      · obtain rfl := List.length_eq_zero_iff.1 h0
        clear h0
        refine (Tryz.strings_Join_none _ _ _ _).mono ?_
        rintro e w9 ⟨rfl, rfl⟩
        go_wp2
        go_ret2
        exact ⟨by rw [HT.out.1, HT.out.2]; rfl, HBR.out⟩
      · have hxl : (ts.map fun t => (⟨(txt t).toArray⟩ : ByteArray)).length = ts.length := by simp
        have hmm : ((ts.map fun t => (⟨(txt t).toArray⟩ : ByteArray)).map (·.data.toList)) = ts.map txt := by simp
        have hjl : (joinW (ts.map txt)).length ≤ 20000000000 := by
          have := joinW_len (m := 100000) (ts.map txt) (fun x hx => by
            obtain ⟨t, ht, rfl⟩ := List.mem_map.1 hx
            exact txt_len (by have := HALL.out; rw [List.all_eq_true] at this; exact this t ht) (HX.out t ht))
          rw [List.length_map] at this
          have h2 : ts.length * (100000 + 1) ≤ 100000 * (100000 + 1) := Nat.mul_le_mul_right _ hn
          omega
        have hj := Tryz.strings_Join w.heap.size 0 ts.length (ts.map fun t => (⟨(txt t).toArray⟩ : ByteArray)) ⟨#[32]⟩ wr (fun j x hjx => by
          have hj : j < ts.length := by have := (List.getElem?_eq_some_iff.1 hjx).1; rwa [hxl] at this
          have hc := HRW.out.cell hj
          rw [List.getElem?_map, List.getElem?_eq_getElem hj] at hjx
          have hx2 : (⟨(txt ts[j]).toArray⟩ : ByteArray) = x := by simpa using hjx
          unfold wordTo at hc
          rw [if_pos hj, tokAt_get hj] at hc
          rw [Nat.zero_add, hc, ← hx2]) HRW.out.lt (by rw [hxl]; omega) (by rw [hxl]; omega) (by rw [hmm, joinW_eq]; omega)
        rw [hmm, joinW_eq, hxl] at hj
        refine hj.mono ?_
        clear hj hxl hmm hjl
        rintro e w9 ⟨rfl, hb9⟩
        have HB9 : Hid (Below w.heap.size w w9) := Lib.hid (HBR.out.trans (hb9.mono (by omega)))
        clear hb9
        go_wp2
        go_ret2
        exact ⟨by rw [HT.out.1, HT.out.2]; rfl, HB9.out⟩
end Go.Proofs.YtfnmidddgjlipaaGreatDoor
