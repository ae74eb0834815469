/- Layers Al1 Ca0 Ca1: the walks and the plain laws under the last text, merged and cut to what it uses; nothing is assumed. -/
import Derived.Test.YthekefnocphcdaaGcd

set_option linter.unusedVariables false

set_option linter.unusedSimpArgs false

namespace Go.Proofs.Ythekefnocphcdaa

open Go.RowKit

attribute [local go_sem] Oper.semAt_some

theorem zeros8 : (#[.int .i64 0, .int .i64 0, .int .i64 0, .int .i64 0, .int .i64 0, .int .i64 0, .int .i64 0, .int .i64 0] : Array Value) = arrN (begL 8 0) := by
  rw [begL_zero]; rfl

theorem padL_begin (f : Flow) (h8 : f.senders.toNat ≤ 8) : begL 8 f.senders.toNat = padL (beginL f) := by
  unfold begL padL beginL; simp

/-- the first i of a list, and then nothing -/
def ofT (l : List Int) (i : Nat) : List Int := l.take i ++ List.replicate (l.length - i) 0

theorem ofT_len {l : List Int} {i : Nat} (h : i ≤ l.length) : (ofT l i).length = l.length := by unfold ofT; simp; omega

theorem ofT_zero (l : List Int) : ofT l 0 = List.replicate l.length 0 := by unfold ofT; simp

theorem ofT_all (l : List Int) : ofT l l.length = l := by unfold ofT; simp

theorem ofT_set {l : List Int} {i : Nat} (h : i < l.length) : (ofT l i).set i (nth l i) = ofT l (i + 1) := by
  unfold ofT
  have hl : (l.take i).length = i := by rw [List.length_take]; omega
  rw [List.set_append_right _ _ (by omega), hl, Nat.sub_self]
  have : l.length - i = (l.length - (i + 1)) + 1 := by omega
  rw [this, List.replicate_succ, List.set_cons_zero, List.take_succ_eq_append_getElem h, nth_lt h, List.append_assoc]
  rfl

theorem many_len {f : Flow} : ∀ {k : Nat}, manyTo f k = false → (asgTo f k).length ≤ 5040
  | 0, _ => by simp [asgTo]
  | k + 1, h => by
    simp only [manyTo, Bool.or_eq_false_iff, decide_eq_false_iff_not] at h
    omega

/-- what holds at the head of All's loop over the lots -/
structure LotRel (w : World) (f : Flow) (bs : Nat) (fx : Array Value) (k : Nat) (vm : Value) (rs : List Nat) (W : World) : Prop where
  st : ∃ (bm : Nat) (S : List K8), vm = .map (some bm) ∧ KMap enc8 W bm (keys8 S) ∧ Shows S (asgTo f k) ∧ bm ≠ bs
  many : manyTo f k = false
  spots : Cell1 W bs (.int .i64 (beforeI f k))
  box : Box W w.heap.size fx
  below : Below w.heap.size w W
  marks : MarksOk w.heap.size rs W

/-- .. of its loop over the states: in memory -/
structure StMem (wD : World) (B D bm ri : Nat) (S : List K8) (left : List (K8 × Value)) (N M : List K8) (rs : List Nat) (W : World) : Prop where
  iter : KIter enc8 W bm ri (keys8 S) left
  next : KMap enc8 W D (keys8 N)
  met : KMap enc8 W (D + 1) (keys8 M)
  cell : Cell1 W (D + 1 + 1) (.map (some D))
  below : Below D wD W
  marks : MarksOk B rs W

structure StRel (wD : World) (f : Flow) (k B D bm ri : Nat) (S : List K8) (left : List (K8 × Value)) (N M : List K8) (rs : List Nat) (W : World) : Prop where
  mem : StMem wD B D bm ri S left N M rs W
  plain : StP f k (left.map fun p => p.1) N M
  few : N.length ≤ 5040

section

variable {wD W W' : World} {B D bm ri : Nat} {S N M N' M' : List K8} {left left' : List (K8 × Value)} {rs : List Nat}

theorem StMem.ext (h : StMem wD B D bm ri S left N M rs W) (hb : Below W.heap.size W W') : StMem wD B D bm ri S left N M rs W' :=
  ⟨h.iter.ext hb, h.next.ext hb, h.met.ext hb, h.cell.ext hb, h.below.trans (hb.mono (Nat.le_of_lt h.next.lt)), h.marks.ext hb⟩

theorem KIter.obj {enc : K8 → Value} {W : World} {bm r : Nat} {l left : List (K8 × Value)} (h : KIter enc W bm r l left) : W.heap[r]? ≠ some (.deferred (some [])) := by
  obtain ⟨es, c, seen, c0, a, b, _⟩ := h
  rw [b]; simp

theorem KMap.objK {enc : K8 → Value} {W : World} {r : Nat} {l : List (K8 × Value)} (h : KMap enc W r l) : W.heap[r]? ≠ some (.deferred (some [])) := by
  obtain ⟨es, c, h1, _⟩ := h
  rw [h1]; simp

theorem StMem.pass (h : StMem wD B D bm ri S left N M rs W) (hi : KIter enc8 W' bm ri (keys8 S) left') (hg : W.grownBy W' (some ri)) (hri : ri = D + 1 + 1 + 1) : StMem wD B D bm ri S left' N M rs W' :=
  ⟨hi, h.next.grown hg (by simp; omega), h.met.grown hg (by simp; omega), h.cell.grown hg (by simp; omega), h.below.grown hg (Nat.le_of_lt h.next.lt) (fun j hj => by cases hj; omega), h.marks.grown hg h.iter.obj⟩

theorem StMem.meet (h : StMem wD B D bm ri S left N M rs W) (hm : KMap enc8 W' (D + 1) (keys8 M')) (hg : W.grownBy W' (some (D + 1))) (hri : ri = D + 1 + 1 + 1) (hbm : bm < D) : StMem wD B D bm ri S left N M' rs W' :=
  ⟨h.iter.kept hg (by simp; omega) (by simp; omega), h.next.grown hg (by simp), hm, h.cell.grown hg (by simp), h.below.grown hg (Nat.le_of_lt h.next.lt) (fun j hj => by cases hj; omega), h.marks.grown hg h.met.objK⟩

theorem StMem.more (h : StMem wD B D bm ri S left N M rs W) (hm : KMap enc8 W' D (keys8 N')) (ht : Turned (fun k => k = D ∨ W.heap.size ≤ k) W W') (hri : ri = D + 1 + 1 + 1) (hbm : bm < D) : StMem wD B D bm ri S left N' M rs W' := by
  have h1 := h.iter.lt
  have h2 := h.met.lt
  have h3 := h.cell.lt
  refine ⟨h.iter.turned ht (by omega) (by omega), hm, h.met.turned ht (by omega), h.cell.turned ht (by omega), h.below.trans (ht.below (Nat.le_of_lt h.next.lt) (fun k hk hx => ?_)), h.marks.turned ht (fun r hr hx => ?_)⟩
  · have := h.next.lt; omega
  · rcases hx with rfl | hx
    · exact h.next.objK (h.marks.at_ _ hr).2
    · have := h.marks.lt r hr; omega

end

set_option maxHeartbeats 16000000 in
set_option maxRecDepth 100000 in
/-- count.All -/
theorem all27_any (B : Nat) (w : World) (vs vl : Value) (f : Flow) (hf : IsFlow B w vs vl f) (hB : B ≤ w.heap.size) :
    Calls Try.prog 15 #[.agg #[vs, vl]] w fun e w' => ∃ v, e = .returned (.tuple #[v, .int .i64 (allE f)]) ∧ OwnMat w.heap.size w' v (allR f) ∧ Below w.heap.size w w' := by
  have HF := Lib.hid hf
  obtain ⟨rfl, ⟨hs1, hs2⟩, hl⟩ := hf
  obtain ⟨b, off, cap, ⟨a, rfl, hcap, hmax, ha⟩, hlen, hc⟩ := hl
  have HC := Lib.hid hc
  have HA := Lib.hid ha
  clear hc ha
  have HCK := Lib.hid (fun o => fcheck_any B (w.alloc o) _ _ f (HF.out.below (box_below hB o) (Nat.le_refl _)) (by simp; omega))
  have HER : Hid (allE f = if checkE f ≠ 0 then checkE f else if 8 < f.senders then 2 else if manyTo f f.lots.length then 2 else 0) := Lib.hid rfl
  have HRR : Hid (allR f = if allE f = 0 then asgL f else []) := Lib.hid rfl
  by_cases h1 : checkE f = 0
  · have h1' : (checkE f != 0) = false := by simpa using h1
    have H1 := Lib.hid h1
    by_cases h2 : 8 < f.senders
    · have h2' : decide (8 < f.senders) = true := decide_eq_true h2
      have HE : Hid (allE f = 2) := Lib.hid (by rw [HER.out, if_neg (by simp [h1]), if_pos h2])
      have HR : Hid (allR f = []) := Lib.hid (by rw [HRR.out, HE.out]; rfl)
      clear h1
      go_enter Try.func15, Try.ntmps15
      go_wp2_with (go_at_call 43; refine (HCK.out _).mono ?_; rintro e w5 ⟨rfl, hb5⟩; have HB5 := Lib.hid hb5; have HX5 := Lib.hid ((Box.new w #[.int .i64 f.senders, .slice a f.lots.length cap] 24).ext hb5); obtain ⟨z5, r5⟩ := HX5.out; clear hb5)
      go_ret2
      exact ⟨.slice none 0 0, by rw [HE.out]; rfl, by rw [HR.out]; exact OwnMat.nil _ _, (box_below' w _).trans (HB5.out.mono (by simp))⟩
    · have h2' : decide (8 < f.senders) = false := decide_eq_false h2
      have h8 : f.senders ≤ 8 := by omega
      obtain ⟨h0, _, h2000, h50, hlots⟩ := checkE_ok h1
      have HE1 : Hid (allE f = if manyTo f f.lots.length then 2 else 0) := Lib.hid (by rw [HER.out, if_neg (by simp [h1]), if_neg h2])
      have HLT := Lib.hid hlots
      have H50 := Lib.hid h50
      obtain ⟨n, hn⟩ : ∃ n : Nat, f.senders = (n : Int) := ⟨f.senders.toNat, by omega⟩
      have hn8 : n ≤ 8 := by omega
      have htn : f.senders.toNat = n := by omega
      have HTN := Lib.hid htn
      have HN := Lib.hid hn
      clear h1 hlots h50 htn
      rw [hn] at h2' HCK HF ⊢
      clear hn
      have hmm := @run_makeMap Try.prog
      have hmf := @run_makeFunc_any Try.prog
      refine (callsIn_wide (n := 11)).1 ?_
      refine callsIn_of_wp_marks Try.func15 rfl trivial ?_ rfl
      simp only [Try.ntmps15, List.size_toArray, List.length_cons, List.length_nil, Nat.reduceAdd, Nat.reduceSub, Array.replicate_succ, Array.replicate_zero, List.push_toArray, List.append_toArray, List.nil_append, List.cons_append]
      refine wpIn_wide.2 ?_
      go_wp2_with (go_at_call 43; refine (HCK.out _).mono ?_; rintro e w5 ⟨rfl, hb5⟩; have HB5 := Lib.hid ((box_below' w _).trans (hb5.mono (by simp))); have HX5 := Lib.hid ((Box.new w #[.int .i64 (n : Int), .slice a f.lots.length cap] 24).ext hb5); obtain ⟨z5, r5⟩ := HX5.out; clear hb5)
      rw [zeros8]
      obtain ⟨w6, hw6⟩ : ∃ W, w5.alloc (.cells (arrN (begL 8 0)) 64) = W := ⟨_, rfl⟩
      rw [hw6]
      have HR6 : Hid (Row8 w6 w5.heap.size (begL 8 0)) := Lib.hid (by rw [← hw6]; exact Row8.new w5 (begL_len (by omega)))
      have HB6 : Hid (Below w5.heap.size w5 w6) := Lib.hid (by rw [← hw6]; exact box_below' _ _)
      have HZ5 : Hid (w.heap.size < w5.heap.size) := Lib.hid z5
      clear hw6 z5 r5
      go_loopw [33] (fun vi wr => ∃ s : Nat, s ≤ n ∧ vi = .int .i64 s ∧ Row8 wr w5.heap.size (begL 8 s) ∧ Below w5.heap.size w5 wr) (fun vi _ => n - (intOf vi).toNat)
      case atStart => exact ⟨0, by omega, rfl, HR6.out, HB6.out⟩
      case round =>
        obtain ⟨s, hs, rfl, hrow, hbl⟩ := hrel
        have HR7 := Lib.hid hrow
        have HB7 := Lib.hid hbl
        have HX7 := Lib.hid (HX5.out.ext hbl)
        obtain ⟨z7, r7⟩ := HX7.out
        clear hrow hbl HR6 HB6
        by_cases hlt : s < n
        · have hlt' : decide ((s : Int) < n) = true := decide_eq_true (by omega)
          have hs8 : s < 8 := by omega
          have c1 := HR7.out.cell (j := s) hs8
          have c2 := HR7.out.free (j := s)
          have HST := Lib.hid (HR7.out.set s (s : Int))
          rw [begL_set (by omega)] at HST
          have hs9 : (s : Int) < 8 := by omega
          go_wp2
          go_roundw
          case rel => exact ⟨s + 1, by omega, by go_num, HST.out, HB7.out.setCell (p := ⟨w5.heap.size, s, none⟩) (Nat.le_refl _) _⟩
          case measure => simp [intOf]; omega
        · have hlt' : decide ((s : Int) < n) = false := decide_eq_false (by omega)
          obtain rfl : s = n := by omega
          have HPB : Hid (begL 8 s = padL (beginL f)) := Lib.hid (by rw [← HTN.out]; exact padL_begin f (by rw [HTN.out]; omega))
          rw [HPB.out] at HR7
          have HBL := Lib.hid (asg_len (f := f) 0 (beginL f) (by simp [asgTo]))
          obtain ⟨κ0, hκ0⟩ : ∃ y : K8, y.1 = padL (beginL f) := asg_vals (m := 0) h0 h8 rfl (by have := H50.out; have h1 := beforeI_mono (f := f) (show 0 ≤ f.lots.length by omega); omega) _ (by simp [asgTo])
          have HK0 := Lib.hid hκ0
          have HR7a := Lib.hid (HR7.out.ext (box_below' wr (.map #[] 0)))
          clear hκ0
          go_wp2_with (first
            | ((with_reducible refine wpList_load8 (.tmp 4) HR7a.out ?_ ?_ ?_ ?_); rotate_left; rfl; rfl; rfl; rw [← HK0.out])
            | (refine wpList_insert_k encK8 rfl (.tmp 40) (.tmp 41) (.const (.bool true)) rfl Try.underlying65 rfl (KMap.made wr) (x := κ0) (v := .bool true) rfl rfl ?_; intro w8 hm8 hg8 hz8; have HM8 := Lib.hid hm8; have HB8 : Hid (Below wr.heap.size wr w8) := Lib.hid ((box_below' wr (.map #[] 0)).grown hg8 (by simp) (fun j hj => by cases hj; exact Nat.le_refl _)); have HZ8 := Lib.hid hz8; have HX8 := Lib.hid (HX7.out.ext HB8.out); obtain ⟨z8, r8⟩ := HX8.out; clear hm8 hg8 hz8 z7 r7))
          obtain ⟨w9, hw9⟩ : ∃ W, w8.alloc (.cells #[.int .i64 (s : Int)] 3) = W := ⟨_, rfl⟩
          obtain ⟨bs, hbs⟩ : ∃ x, w8.heap.size = x := ⟨_, rfl⟩
          obtain ⟨bm0, hbm0⟩ : ∃ x, wr.heap.size = x := ⟨_, rfl⟩
          have HC9 : Hid (Cell1 w9 bs (.int .i64 (s : Int))) := Lib.hid (by rw [← hw9, ← hbs]; exact Cell1.new w8 _ _)
          have HB9 : Hid (Below w8.heap.size w8 w9) := Lib.hid (by rw [← hw9]; exact box_below' _ _)
          have HM9 : Hid (KMap enc8 w9 bm0 (keys8 [κ0])) := Lib.hid (by rw [← hbm0]; exact HM8.out.ext HB9.out)
          have HX9 := Lib.hid (HX8.out.ext HB9.out)
          have HW9 : Hid (Below w.heap.size w w9) := Lib.hid (((HB5.out.trans (HB7.out.mono HB5.out.size)).trans (HB8.out.mono (Nat.le_trans HB5.out.size HB7.out.size))).trans (HB9.out.mono (Nat.le_trans (Nat.le_trans HB5.out.size HB7.out.size) HB8.out.size)))
          have hne : bm0 ≠ bs := by have := HM8.out.lt; rw [hbm0, hbs] at this; omega
          have HS0 : Hid (Shows [κ0] (asgTo f 0)) := Lib.hid (fun y => by
            simp only [List.mem_singleton, asgTo, exists_eq_left]
            constructor
            · rintro rfl; exact HK0.out
            · intro h; exact Subtype.ext (h.trans HK0.out.symm))
          have hbI : beforeI f 0 = (s : Int) := HN.out
          have HLR : Hid (LotRel w f bs #[.int .i64 (s : Int), .slice a f.lots.length cap] 0 (.map (some bm0)) [] w9) := Lib.hid ⟨⟨bm0, [κ0], rfl, HM9.out, HS0.out, hne⟩, rfl, by rw [hbI]; exact HC9.out, HX9.out, HW9.out, MarksOk.nil _ _⟩
          have HBS : Hid (w.heap.size < bs) := Lib.hid (by rw [← hbs]; exact z8)
          rw [hw9, hbs, hbm0]
          generalize hv41 : Value.agg (arrN κ0.1) = v41
          clear hv41
          clear hw9 hbs hbm0 z8 r8 hne hbI HC9 HB9 HM9 HX9 HW9 HS0 HB8 HM8 HZ8 HX8 HR7a HB7 HR7 HX7 HX5 HZ5 HB5
          refine wp_loop (fun a' W => ∃ (rs : List Nat) (u2 u3 u6 u9 u10 u11 u12 u13 u14 u15 u16 u17 u18 u19 u20 u21 u22 u48 u49 u50 u51 u52 u53 u54 u55 u56 u57 u58 u59 u60 u61 u62 u63 u64 u65 u66 u67 u68 u69 u70 u71 u72 u73 u74 u75 u76 u77 u78 u79 u80 u81 u82 u83 u84 u85 u86 u87 u88 u89 u90 u91 u92 u93 u94 u95 u96 u97 u98 u99 u100 u101 u102 u103 u104 u105 u106 u107 u108 u109 u110 u111 u112 u113 u114 u115 u116 u117 u118 u119 u120 u121 u122 u123 u124 u125 u126 u127 u128 u129 u130 u131 u132 u133 u134 u135 u136 : Value), (∃ k : Nat, k ≤ f.lots.length ∧ u48 = .int .i64 k ∧ LotRel w f bs #[.int .i64 (s : Int), .slice a f.lots.length cap] k u6 rs W) ∧ a' = { tmps := #[.agg #[.int .i64 (s : Int), .slice a f.lots.length cap], .pointer (some ⟨w.heap.size, 0, none⟩), u2, u3, .pointer (some ⟨w5.heap.size, 0, none⟩), u5, u6, .pointer (some ⟨bs, 0, none⟩), undef, u9, u10, u11, u12, u13, u14, u15, u16, u17, u18, u19, u20, u21, u22, .agg #[.int .i64 (s : Int), .slice a f.lots.length cap], .int .i64 (checkE f), .int .i64 (checkE f), .bool false, undef, .pointer (some ⟨w.heap.size, 0, none⟩), .int .i64 (s : Int), .bool false, .pointer (some ⟨w.heap.size, 0, none⟩), .int .i64 (s : Int), .int .i64 (s : Int), .bool false, u35, u36, u37, u38, u39, .map (some bm0), v41, .map (some bm0), .pointer (some ⟨w.heap.size, 0, none⟩), .int .i64 (s : Int), .pointer (some ⟨w.heap.size, 1, none⟩), .slice a f.lots.length cap, .int .i64 (f.lots.length : Int), u48, u49, u50, u51, u52, u53, u54, u55, u56, u57, u58, u59, u60, u61, u62, u63, u64, u65, u66, u67, u68, u69, u70, u71, u72, u73, u74, u75, u76, u77, u78, u79, u80, u81, u82, u83, u84, u85, u86, u87, u88, u89, u90, u91, u92, u93, u94, u95, u96, u97, u98, u99, u100, u101, u102, u103, u104, u105, u106, u107, u108, u109, u110, u111, u112, u113, u114, u115, u116, u117, u118, u119, u120, u121, u122, u123, u124, u125, u126, u127, u128, u129, u130, u131, u132, u133, u134, u135, u136, undef, undef, undef], defers := marksOf rs }) (fun a' _ => f.lots.length - (intOf (a'.tmps.getD 48 undef)).toNat) ?_ ?_
          focus
            refine ⟨[], ?_⟩
            repeat apply Exists.intro
            refine ⟨?_, rfl⟩
            exact ⟨0, by omega, rfl, HLR.out⟩
          intro a' wB hinv
          obtain ⟨rs, hinv⟩ := hinv
          obtain ⟨u2, hinv⟩ := hinv
          obtain ⟨u3, hinv⟩ := hinv
          obtain ⟨u6, hinv⟩ := hinv
          obtain ⟨u9, hinv⟩ := hinv
          obtain ⟨u10, hinv⟩ := hinv
          obtain ⟨u11, hinv⟩ := hinv
          obtain ⟨u12, hinv⟩ := hinv
          obtain ⟨u13, hinv⟩ := hinv
          obtain ⟨u14, hinv⟩ := hinv
          obtain ⟨u15, hinv⟩ := hinv
          obtain ⟨u16, hinv⟩ := hinv
          obtain ⟨u17, hinv⟩ := hinv
          obtain ⟨u18, hinv⟩ := hinv
          obtain ⟨u19, hinv⟩ := hinv
          obtain ⟨u20, hinv⟩ := hinv
          obtain ⟨u21, hinv⟩ := hinv
          obtain ⟨u22, hinv⟩ := hinv
          obtain ⟨u48, hinv⟩ := hinv
          obtain ⟨u49, hinv⟩ := hinv
          obtain ⟨u50, hinv⟩ := hinv
          obtain ⟨u51, hinv⟩ := hinv
          obtain ⟨u52, hinv⟩ := hinv
          obtain ⟨u53, hinv⟩ := hinv
          obtain ⟨u54, hinv⟩ := hinv
          obtain ⟨u55, hinv⟩ := hinv
          obtain ⟨u56, hinv⟩ := hinv
          obtain ⟨u57, hinv⟩ := hinv
          obtain ⟨u58, hinv⟩ := hinv
          obtain ⟨u59, hinv⟩ := hinv
          obtain ⟨u60, hinv⟩ := hinv
          obtain ⟨u61, hinv⟩ := hinv
          obtain ⟨u62, hinv⟩ := hinv
          obtain ⟨u63, hinv⟩ := hinv
          obtain ⟨u64, hinv⟩ := hinv
          obtain ⟨u65, hinv⟩ := hinv
          obtain ⟨u66, hinv⟩ := hinv
          obtain ⟨u67, hinv⟩ := hinv
          obtain ⟨u68, hinv⟩ := hinv
          obtain ⟨u69, hinv⟩ := hinv
          obtain ⟨u70, hinv⟩ := hinv
          obtain ⟨u71, hinv⟩ := hinv
          obtain ⟨u72, hinv⟩ := hinv
          obtain ⟨u73, hinv⟩ := hinv
          obtain ⟨u74, hinv⟩ := hinv
          obtain ⟨u75, hinv⟩ := hinv
          obtain ⟨u76, hinv⟩ := hinv
          obtain ⟨u77, hinv⟩ := hinv
          obtain ⟨u78, hinv⟩ := hinv
          obtain ⟨u79, hinv⟩ := hinv
          obtain ⟨u80, hinv⟩ := hinv
          obtain ⟨u81, hinv⟩ := hinv
          obtain ⟨u82, hinv⟩ := hinv
          obtain ⟨u83, hinv⟩ := hinv
          obtain ⟨u84, hinv⟩ := hinv
          obtain ⟨u85, hinv⟩ := hinv
          obtain ⟨u86, hinv⟩ := hinv
          obtain ⟨u87, hinv⟩ := hinv
          obtain ⟨u88, hinv⟩ := hinv
          obtain ⟨u89, hinv⟩ := hinv
          obtain ⟨u90, hinv⟩ := hinv
          obtain ⟨u91, hinv⟩ := hinv
          obtain ⟨u92, hinv⟩ := hinv
          obtain ⟨u93, hinv⟩ := hinv
          obtain ⟨u94, hinv⟩ := hinv
          obtain ⟨u95, hinv⟩ := hinv
          obtain ⟨u96, hinv⟩ := hinv
          obtain ⟨u97, hinv⟩ := hinv
          obtain ⟨u98, hinv⟩ := hinv
          obtain ⟨u99, hinv⟩ := hinv
          obtain ⟨u100, hinv⟩ := hinv
          obtain ⟨u101, hinv⟩ := hinv
          obtain ⟨u102, hinv⟩ := hinv
          obtain ⟨u103, hinv⟩ := hinv
          obtain ⟨u104, hinv⟩ := hinv
          obtain ⟨u105, hinv⟩ := hinv
          obtain ⟨u106, hinv⟩ := hinv
          obtain ⟨u107, hinv⟩ := hinv
          obtain ⟨u108, hinv⟩ := hinv
          obtain ⟨u109, hinv⟩ := hinv
          obtain ⟨u110, hinv⟩ := hinv
          obtain ⟨u111, hinv⟩ := hinv
          obtain ⟨u112, hinv⟩ := hinv
          obtain ⟨u113, hinv⟩ := hinv
          obtain ⟨u114, hinv⟩ := hinv
          obtain ⟨u115, hinv⟩ := hinv
          obtain ⟨u116, hinv⟩ := hinv
          obtain ⟨u117, hinv⟩ := hinv
          obtain ⟨u118, hinv⟩ := hinv
          obtain ⟨u119, hinv⟩ := hinv
          obtain ⟨u120, hinv⟩ := hinv
          obtain ⟨u121, hinv⟩ := hinv
          obtain ⟨u122, hinv⟩ := hinv
          obtain ⟨u123, hinv⟩ := hinv
          obtain ⟨u124, hinv⟩ := hinv
          obtain ⟨u125, hinv⟩ := hinv
          obtain ⟨u126, hinv⟩ := hinv
          obtain ⟨u127, hinv⟩ := hinv
          obtain ⟨u128, hinv⟩ := hinv
          obtain ⟨u129, hinv⟩ := hinv
          obtain ⟨u130, hinv⟩ := hinv
          obtain ⟨u131, hinv⟩ := hinv
          obtain ⟨u132, hinv⟩ := hinv
          obtain ⟨u133, hinv⟩ := hinv
          obtain ⟨u134, hinv⟩ := hinv
          obtain ⟨u135, hinv⟩ := hinv
          obtain ⟨u136, hinv⟩ := hinv
          obtain ⟨⟨k, hk, hu48, hrel⟩, ha'⟩ := hinv
          subst ha'
          subst hu48
          try dsimp only
          obtain ⟨⟨bm, S, rfl, hkm, hsh, hnb⟩, hmany, hspots, hbox, hbel, hmarks⟩ := hrel
          have HKM := Lib.hid hkm
          have HSH := Lib.hid hsh
          have HMY := Lib.hid hmany
          have HSP := Lib.hid hspots
          have HBX := Lib.hid hbox
          have HBB := Lib.hid hbel
          have HMK := Lib.hid hmarks
          obtain ⟨zx, rx⟩ := hbox
          clear HLR hkm hsh hmany hspots hbel hmarks
          by_cases hlt : k < f.lots.length
          · have hlt' : decide ((k : Int) < f.lots.length) = true := decide_eq_true (by omega)
            obtain rfl : a = some ⟨b, off, none⟩ := by rcases HA.out with h | h; exact h; omega
            obtain ⟨vi, vk, vp, ⟨hb, c1⟩, ⟨_, c2⟩, ⟨_, c3⟩, hli, rfl, hlp⟩ := HC.out k hlt
            have hbw : b < w.heap.size := by omega
            have d1 := (HBB.out.cell (p := ⟨b, off + k * 3, none⟩) hbw).trans c1
            have d2 := (HBB.out.cell (p := ⟨b, off + k * 3 + 1, none⟩) hbw).trans c2
            have d3 := (HBB.out.cell (p := ⟨b, off + k * 3 + 2, none⟩) hbw).trans c3
            obtain ⟨ai, ci, rfl⟩ := hli.form
            obtain ⟨ap, cp, rfl⟩ := hlp.form
            have HLI := Lib.hid hli
            have HLP := Lib.hid hlp
            have hlotk := lotsB_lot HLT.out hlt
            have HLOT := Lib.hid hlotk
            have HLK : Hid (lotsB f k = true) := Lib.hid (by
              cases h : lotsB f k with
              | true => rfl
              | false => have := lotsB_false h (show k ≤ f.lots.length by omega); rw [HLT.out] at this; cases this)
            have HLK1 : Hid (lotsB f (k + 1) = true) := Lib.hid (by
              cases h : lotsB f (k + 1) with
              | true => rfl
              | false => have := lotsB_false h (show k + 1 ≤ f.lots.length by omega); rw [HLT.out] at this; cases this)
            obtain ⟨m, hm⟩ : ∃ m, (lotAt f.lots k).ins.length = m := ⟨_, rfl⟩
            have hm8 : m ≤ 8 := by have := ins_few h0 HLT.out hlt; omega
            have HM := Lib.hid hm
            rw [hm] at d1
            obtain ⟨kn, hkn⟩ : ∃ x, (lotAt f.lots k).known = x := ⟨_, rfl⟩
            have HKN := Lib.hid hkn
            rw [hkn] at d2
            obtain ⟨D0, hD0⟩ : ∃ x, wB.heap.size = x := ⟨_, rfl⟩
            clear hli hlp c1 c2 c3 hlotk hm hkn
            go_upto_region 18 with fail
            have hzB : D0 < D0 + 1 := by omega
            obtain ⟨wD, hwD⟩ : ∃ W, wB.alloc (.cells #[.slice ai m ci, .bool kn, .slice ap (lotAt f.lots k).perm.length cp] 39) = W := ⟨_, rfl⟩
            obtain ⟨D, hD⟩ : ∃ x, D0 + 1 = x := ⟨_, rfl⟩
            have hDs : wD.heap.size = D := by rw [← hwD, ← hD, ← hD0]; simp
            have HLB : Hid (Box wD D0 #[.slice ai m ci, .bool kn, .slice ap (lotAt f.lots k).perm.length cp]) := Lib.hid (by rw [← hwD, ← hD0]; exact Box.new wB _ _)
            have HBD : Hid (Below D0 wB wD) := Lib.hid (by rw [← hwD, ← hD0]; exact box_below' _ _)
            rw [hwD, hD]
            obtain ⟨wT, hwT⟩ : ∃ W, ((wD.alloc (.map #[] 0)).alloc (.map #[] 0)).alloc (.cells #[.map (some D)] 65) = W := ⟨_, rfl⟩
            have HNX : Hid (KMap enc8 wT D (keys8 [])) := Lib.hid (by rw [← hwT, ← hDs]; exact ((KMap.made wD).alloc _).alloc _)
            have HMT : Hid (KMap enc8 wT (D + 1) (keys8 [])) := Lib.hid (by
              rw [← hwT]
              have h1 := (KMap.made (enc := enc8) (wD.alloc (.map #[] 0))).alloc (.cells #[.map (some D)] 65)
              rw [World.size_alloc, hDs] at h1
              exact h1)
            have HCL : Hid (Cell1 wT (D + 1 + 1) (.map (some D))) := Lib.hid (by
              rw [← hwT]
              have h1 := Cell1.new ((wD.alloc (.map #[] 0)).alloc (.map #[] 0)) (.map (some D)) 65
              rw [World.size_alloc, World.size_alloc, hDs] at h1
              exact h1)
            have HBT : Hid (Below D wD wT) := Lib.hid (by
              rw [← hwT, ← hDs]
              exact (((Below.refl _ wD).alloc (Nat.le_refl _) _).alloc (by simp) _).alloc (by simp; omega) _)
            have HRI0 : Hid (wT.heap.size = D + 1 + 1 + 1) := Lib.hid (by rw [← hwT]; simp [hDs])
            rw [hwT]
            have HWD : Hid (Below w.heap.size w wD) := Lib.hid (HBB.out.trans (HBD.out.mono (by rw [← hD0]; exact HBB.out.size)))
            have hbmD : bm < D0 := by rw [← hD0]; exact HKM.out.lt
            have hbsD : bs < D0 := by rw [← hD0]; exact HSP.out.lt
            have hwDs : w.heap.size ≤ D0 := by rw [← hD0]; exact HBB.out.size
            have HKMT : Hid (KMap enc8 wT bm (keys8 S)) := Lib.hid ((HKM.out.below HBD.out hbmD).below HBT.out (by omega))
            have HSPD : Hid (Cell1 wD bs (.int .i64 (beforeI f k))) := Lib.hid (HSP.out.below HBD.out hbsD)
            have HBXD := Lib.hid (HBX.out.below HBD.out (by have := HBX.out.1; omega))
            have HMKT : Hid (MarksOk w.heap.size rs wT) := Lib.hid ((HMK.out.ext (by rw [hD0]; exact HBD.out)).ext (by rw [hDs]; exact HBT.out))
            have HSN : Hid S.Nodup := Lib.hid (keys8_nodup HKM.out)
            clear hwD hwT hzB d1 d2 d3 HBD HKM HSP HMK
            go_wp2_with (at_range; refine wpList_range_k rfl (.tmp 54) rfl Try.underlying65 rfl HKMT.out ?_; intro w9 hit9 hb9 hz9; have HIT9 := Lib.hid hit9; have HB9 := Lib.hid hb9; clear hit9 hb9 hz9)
            obtain ⟨ri, hri⟩ : ∃ x, wT.heap.size = x := ⟨_, rfl⟩
            rw [hri] at HIT9 HB9 ⊢
            have hriD : ri = D + 1 + 1 + 1 := by have := HRI0.out; omega
            have HRI := Lib.hid hriD
            clear hriD
            have HSR : Hid (StRel wD f k w.heap.size D bm ri S (keys8 S) [] [] rs w9) := Lib.hid ⟨⟨HIT9.out, HNX.out.ext (by rw [hri]; exact HB9.out), HMT.out.ext (by rw [hri]; exact HB9.out), HCL.out.ext (by rw [hri]; exact HB9.out), HBT.out.trans (HB9.out.mono (by have := HRI0.out; omega)), HMKT.out.ext (by rw [hri]; exact HB9.out)⟩, by
                have h1 : (keys8 S).map (fun p => p.1) = S := keys8_keys S
                rw [h1]
                exact StP.start HSH.out HSN.out (asg_vals h0 h8 HLK.out (by have h1 := beforeI_mono (f := f) (show k ≤ f.lots.length by omega); have := H50.out; omega)), by simp⟩
            clear HRI0 hri HIT9 HB9 HNX HMT HCL HBT HKMT HMKT
            refine wp_loop (fun a' W => ∃ (rs : List Nat) (u2 u3 u12 u13 u14 u15 u16 u17 u18 u19 u20 u21 u22 u56 u57 u58 u59 u60 u61 u62 u63 u64 u65 u66 u67 u68 u69 u70 u71 u72 u73 u74 u75 u76 u77 u78 u79 u80 u81 u82 u83 u84 u85 u86 u87 u88 u89 u90 u91 u92 u93 u94 u95 u96 u97 u98 u99 u100 u101 u102 u103 u104 u105 u106 u107 u108 u109 u110 u111 u112 u113 u114 u115 u116 u117 u118 u119 u120 u121 u122 u123 u124 u125 u126 u127 u128 u129 : Value), (∃ left N M, StRel wD f k w.heap.size D bm ri S left N M rs W) ∧ a' = { tmps := #[.agg #[.int .i64 (s : Int), .slice (some ⟨b, off, none⟩) f.lots.length cap], .pointer (some ⟨w.heap.size, 0, none⟩), u2, u3, .pointer (some ⟨w5.heap.size, 0, none⟩), u5, .map (some bm), .pointer (some ⟨bs, 0, none⟩), undef, .pointer (some ⟨D0, 0, none⟩), .pointer (some ⟨D + 1 + 1, 0, none⟩), .map (some (D + 1)), u12, u13, u14, u15, u16, u17, u18, u19, u20, u21, u22, .agg #[.int .i64 (s : Int), .slice (some ⟨b, off, none⟩) f.lots.length cap], .int .i64 (checkE f), .int .i64 (checkE f), .bool false, undef, .pointer (some ⟨w.heap.size, 0, none⟩), .int .i64 (s : Int), .bool false, .pointer (some ⟨w.heap.size, 0, none⟩), .int .i64 (s : Int), .int .i64 (s : Int), .bool false, u35, u36, u37, u38, u39, .map (some bm0), v41, .map (some bm0), .pointer (some ⟨w.heap.size, 0, none⟩), .int .i64 (s : Int), .pointer (some ⟨w.heap.size, 1, none⟩), .slice (some ⟨b, off, none⟩) f.lots.length cap, .int .i64 (f.lots.length : Int), .int .i64 (k : Int), .bool true, .pointer (some ⟨b, off + k * 3, none⟩), .agg #[.slice ai m ci, .bool kn, .slice ap (lotAt f.lots k).perm.length cp], .map (some D), .map (some (D + 1)), .map (some bm), .pointer (some ⟨ri, 0, none⟩), u56, u57, u58, u59, u60, u61, u62, u63, u64, u65, u66, u67, u68, u69, u70, u71, u72, u73, u74, u75, u76, u77, u78, u79, u80, u81, u82, u83, u84, u85, u86, u87, u88, u89, u90, u91, u92, u93, u94, u95, u96, u97, u98, u99, u100, u101, u102, u103, u104, u105, u106, u107, u108, u109, u110, u111, u112, u113, u114, u115, u116, u117, u118, u119, u120, u121, u122, u123, u124, u125, u126, u127, u128, u129, u130, u131, u132, u133, u134, u135, u136, undef, undef, undef], defers := marksOf rs }) (fun _ W => iterLeft W bm ri) ?_ ?_
            focus
              refine ⟨rs, ?_⟩
              repeat apply Exists.intro
              refine ⟨?_, rfl⟩
              exact ⟨_, _, _, HSR.out⟩
            intro a' wC hinv
            clear HSR
            obtain ⟨rs2, hinv⟩ := hinv
            obtain ⟨u2, hinv⟩ := hinv
            obtain ⟨u3, hinv⟩ := hinv
            obtain ⟨u12, hinv⟩ := hinv
            obtain ⟨u13, hinv⟩ := hinv
            obtain ⟨u14, hinv⟩ := hinv
            obtain ⟨u15, hinv⟩ := hinv
            obtain ⟨u16, hinv⟩ := hinv
            obtain ⟨u17, hinv⟩ := hinv
            obtain ⟨u18, hinv⟩ := hinv
            obtain ⟨u19, hinv⟩ := hinv
            obtain ⟨u20, hinv⟩ := hinv
            obtain ⟨u21, hinv⟩ := hinv
            obtain ⟨u22, hinv⟩ := hinv
            obtain ⟨u56, hinv⟩ := hinv
            obtain ⟨u57, hinv⟩ := hinv
            obtain ⟨u58, hinv⟩ := hinv
            obtain ⟨u59, hinv⟩ := hinv
            obtain ⟨u60, hinv⟩ := hinv
            obtain ⟨u61, hinv⟩ := hinv
            obtain ⟨u62, hinv⟩ := hinv
            obtain ⟨u63, hinv⟩ := hinv
            obtain ⟨u64, hinv⟩ := hinv
            obtain ⟨u65, hinv⟩ := hinv
            obtain ⟨u66, hinv⟩ := hinv
            obtain ⟨u67, hinv⟩ := hinv
            obtain ⟨u68, hinv⟩ := hinv
            obtain ⟨u69, hinv⟩ := hinv
            obtain ⟨u70, hinv⟩ := hinv
            obtain ⟨u71, hinv⟩ := hinv
            obtain ⟨u72, hinv⟩ := hinv
            obtain ⟨u73, hinv⟩ := hinv
            obtain ⟨u74, hinv⟩ := hinv
            obtain ⟨u75, hinv⟩ := hinv
            obtain ⟨u76, hinv⟩ := hinv
            obtain ⟨u77, hinv⟩ := hinv
            obtain ⟨u78, hinv⟩ := hinv
            obtain ⟨u79, hinv⟩ := hinv
            obtain ⟨u80, hinv⟩ := hinv
            obtain ⟨u81, hinv⟩ := hinv
            obtain ⟨u82, hinv⟩ := hinv
            obtain ⟨u83, hinv⟩ := hinv
            obtain ⟨u84, hinv⟩ := hinv
            obtain ⟨u85, hinv⟩ := hinv
            obtain ⟨u86, hinv⟩ := hinv
            obtain ⟨u87, hinv⟩ := hinv
            obtain ⟨u88, hinv⟩ := hinv
            obtain ⟨u89, hinv⟩ := hinv
            obtain ⟨u90, hinv⟩ := hinv
            obtain ⟨u91, hinv⟩ := hinv
            obtain ⟨u92, hinv⟩ := hinv
            obtain ⟨u93, hinv⟩ := hinv
            obtain ⟨u94, hinv⟩ := hinv
            obtain ⟨u95, hinv⟩ := hinv
            obtain ⟨u96, hinv⟩ := hinv
            obtain ⟨u97, hinv⟩ := hinv
            obtain ⟨u98, hinv⟩ := hinv
            obtain ⟨u99, hinv⟩ := hinv
            obtain ⟨u100, hinv⟩ := hinv
            obtain ⟨u101, hinv⟩ := hinv
            obtain ⟨u102, hinv⟩ := hinv
            obtain ⟨u103, hinv⟩ := hinv
            obtain ⟨u104, hinv⟩ := hinv
            obtain ⟨u105, hinv⟩ := hinv
            obtain ⟨u106, hinv⟩ := hinv
            obtain ⟨u107, hinv⟩ := hinv
            obtain ⟨u108, hinv⟩ := hinv
            obtain ⟨u109, hinv⟩ := hinv
            obtain ⟨u110, hinv⟩ := hinv
            obtain ⟨u111, hinv⟩ := hinv
            obtain ⟨u112, hinv⟩ := hinv
            obtain ⟨u113, hinv⟩ := hinv
            obtain ⟨u114, hinv⟩ := hinv
            obtain ⟨u115, hinv⟩ := hinv
            obtain ⟨u116, hinv⟩ := hinv
            obtain ⟨u117, hinv⟩ := hinv
            obtain ⟨u118, hinv⟩ := hinv
            obtain ⟨u119, hinv⟩ := hinv
            obtain ⟨u120, hinv⟩ := hinv
            obtain ⟨u121, hinv⟩ := hinv
            obtain ⟨u122, hinv⟩ := hinv
            obtain ⟨u123, hinv⟩ := hinv
            obtain ⟨u124, hinv⟩ := hinv
            obtain ⟨u125, hinv⟩ := hinv
            obtain ⟨u126, hinv⟩ := hinv
            obtain ⟨u127, hinv⟩ := hinv
            obtain ⟨u128, hinv⟩ := hinv
            obtain ⟨u129, hinv⟩ := hinv
            obtain ⟨⟨left, N, M, hrel⟩, ha'⟩ := hinv
            subst ha'
            try dsimp only
            have HREL := Lib.hid hrel
            have HITC := Lib.hid hrel.mem.iter
            have hne9 : ri ≠ bm := by have := HRI.out; omega
            have HBC : Hid (Below w.heap.size w wC) := Lib.hid (HWD.out.trans (hrel.mem.below.mono (by omega)))
            clear hrel
            by_cases hlw : left = []
            · have HLW := Lib.hid hlw
              have g1 := HREL.out.mem.cell.cell
              have HSPC := Lib.hid (HSPD.out.below HREL.out.mem.below (by omega))
              have g2 := HSPC.out.cell
              have g3 := HSPC.out.free
              have HLBC := Lib.hid (HLB.out.below HREL.out.mem.below (by omega))
              obtain ⟨zy, ry⟩ := HLBC.out
              have HDN : Hid (Shows N (asgTo f (k + 1))) := Lib.hid (by have h := HREL.out.plain; rw [hlw] at h; exact h.done)
              have HNE : Hid (beforeI f (k + 1) = beforeI f k + (m : Int)) := Lib.hid (by show beforeI f k + ((lotAt f.lots k).ins.length : Int) = _; rw [HM.out])
              have hbf : 0 ≤ beforeI f k ∧ beforeI f k ≤ 1000000 := by have h1 := beforeI_mono (f := f) (show k ≤ f.lots.length by omega); have h2 := beforeI_mono (f := f) (show 0 ≤ k by omega); have h3 : beforeI f 0 = f.senders := rfl; have := H50.out; omega
              have HMY1 : Hid (manyTo f (k + 1) = false) := Lib.hid (by
                have h1 := shows_len HDN.out (keys8_nodup HREL.out.mem.next) (asg_vals h0 h8 HLK1.out (by have h1 := beforeI_mono (f := f) (show k + 1 ≤ f.lots.length by omega); have := H50.out; omega))
                have := HREL.out.few
                simp only [manyTo, HMY.out, Bool.false_or]
                exact decide_eq_false (by omega))
              clear hlw
              go_wp2_with (at_next; refine wpList_next_kdone rfl (.tmp 55) rfl rfl HITC.out hne9 HLW.out ?_)
              refine ⟨?_, ?_⟩
              focus
                refine ⟨rs2, ?_⟩
                repeat apply Exists.intro
                refine ⟨?_, rfl⟩
                refine ⟨k + 1, by omega, by go_num, ⟨⟨D, N, rfl, HREL.out.mem.next.setCell _ _ (by show D ≠ bs; omega), HDN.out, by omega⟩, HMY1.out, ?_, ?_, ?_, ?_⟩⟩
                · rw [HNE.out]; exact HSPC.out.set _
                · exact ((HBXD.out.below HREL.out.mem.below (by omega)).grown (grown_setCell wC ⟨bs, 0, none⟩ _) (by have := HBS.out; simp; omega))
                · exact HBC.out.setCell (p := ⟨bs, 0, none⟩) (by have := HBS.out; show w.heap.size ≤ bs; omega) _
                · exact HREL.out.mem.marks.grown (grown_setCell wC ⟨bs, 0, none⟩ _) (by obtain ⟨t, ht⟩ := HSPC.out; rw [ht]; simp)
              simp [intOf]; omega
            · have HNN := Lib.hid hlw
              have HLBC := Lib.hid (HLB.out.below HREL.out.mem.below (by omega))
              have HBXC := Lib.hid (HBXD.out.below HREL.out.mem.below (by have := HBX.out.1; omega))
              go_wp2_with (first
                | (at_next; refine wpList_next_kmore rfl (.tmp 55) rfl rfl HITC.out hne9 HNN.out ?_; intro A x v Bl w3 hlw2 hit3 hg3 hz3 hen; have HIT3 := Lib.hid hit3; have HG3 := Lib.hid hg3; have HLW2 := Lib.hid hlw2; have HZ3 := Lib.hid hz3; have HLB3 := Lib.hid (HLBC.out.grown hg3 (by have := HRI.out; simp; omega)); have HBX3 := Lib.hid (HBXC.out.grown hg3 (by have := HBX.out.1; have := HRI.out; simp; omega)); obtain ⟨zy, ry⟩ := HLB3.out; rw [enc8_arr8 x] at hen ⊢; obtain ⟨arr, harr⟩ : ∃ arr, arrN x.1 = arr := ⟨_, rfl⟩; have HAR := Lib.hid harr; have HX8 := Lib.hid x.2.1; rw [harr] at hen ⊢; clear hit3 hg3 hz3 hlw2 harr)
                | ((with_reducible refine wpList_store8 (.tmp 12) (.tmp 59) HX8.out ?_ ?_ ?_ ?_ ?_); rotate_left; rfl; rfl; rfl; (rw [HAR.out]; rfl); rw [HAR.out])
                | (at_make; refine wpList_make_ints (m := m) (C := w3.heap.size) rfl _ _ rfl rfl rfl (by omega) (by simp) ?_; intro w5a ho5 hb5 hz5; have HO5 := Lib.hid ho5; have HB5a := Lib.hid hb5; have HZ5a := Lib.hid hz5; have HLB5 := Lib.hid ((HLB3.out.alloc (.cells arr 64)).ext hb5); obtain ⟨zz, rz⟩ := HLB5.out; clear ho5 hb5 hz5 zy ry))
              clear zz rz
              obtain ⟨P0, hP0⟩ : ∃ q, w3.heap.size = q := ⟨_, rfl⟩
              obtain ⟨w6, hw6⟩ : ∃ W, w5a.alloc (.cells #[.slice (some ⟨P0 + 1, 0, none⟩) m m] 34) = W := ⟨_, rfl⟩
              have hz5a : w5a.heap.size = P0 + 1 + 1 := by rw [HZ5a.out, World.size_alloc, hP0]
              have HPR : Hid (Row8 w6 P0 x.1) := Lib.hid (by
                rw [← hw6, ← hP0]
                have h1 := Row8.new w3 x.2.1
                rw [HAR.out] at h1
                exact (h1.ext HB5a.out).ext (box_below' _ _))
              have HOF : Hid (OwnInts P0 w6 (.slice (some ⟨P0 + 1, 0, none⟩) m m) (List.replicate m 0)) := Lib.hid (by
                rw [← hw6]
                have h1 := HO5.out.alloc (.cells #[.slice (some ⟨P0 + 1, 0, none⟩) m m] 34)
                rw [World.size_alloc, hP0] at h1
                exact h1)
              have HOC : Hid (Cell1 w6 (P0 + 1 + 1) (.slice (some ⟨P0 + 1, 0, none⟩) m m)) := Lib.hid (by rw [← hw6, ← hz5a]; exact Cell1.new _ _ _)
              have HB36 : Hid (Below P0 w3 w6) := Lib.hid (by
                rw [← hw6, ← hP0]
                exact ((box_below' w3 _).trans (HB5a.out.mono (by simp))).alloc (by have := hz5a; omega) _)
              have hz6 : w6.heap.size = P0 + 1 + 1 + 1 := by rw [← hw6]; simp [hz5a]
              simp only [hP0, hz5a, World.size_alloc]
              rw [hw6]
              obtain ⟨P1, hP1⟩ : ∃ q, P0 + 1 = q := ⟨_, rfl⟩
              rw [hP1] at HOF HOC hz6 ⊢
              obtain ⟨P2, hP2⟩ : ∃ q, P1 + 1 = q := ⟨_, rfl⟩
              rw [hP2] at HOC hz6 ⊢
              have hDP : D + 1 + 1 + 1 < P0 := by rw [← hP0]; have h1 := HIT3.out.lt; have := HRI.out; omega
              have HB3 : Hid (Below w.heap.size w w3) := Lib.hid (HBC.out.grown HG3.out HBC.out.size (fun j hj => by cases hj; have := HRI.out; omega))
              clear hw6 hz5a HO5 HB5a HLB5 HZ5a
              obtain ⟨p, hpm, hxp⟩ : ∃ p ∈ asgTo f k, x.1 = padL p := HREL.out.plain.left x (by rw [HLW2.out]; simp)
              have hpl : p.length = s := by rw [asg_len k p hpm, HTN.out]
              have HXP := Lib.hid hxp
              have HPM := Lib.hid hpm
              have htk : x.1.take s = p := by rw [hxp, ← hpl, padL_take]
              have HTK := Lib.hid htk
              obtain ⟨hpn, hpi, hin, hpb⟩ := ins_in HLOT.out (asg_all h0 k HLK.out p hpm)
              have HPN := Lib.hid hpn
              have HPI := Lib.hid hpi
              have HIND := Lib.hid hin
              obtain ⟨OF, hOF⟩ : ∃ q, ofL p (lotAt f.lots k).ins = q := ⟨_, rfl⟩
              have HOFD := Lib.hid hOF
              have hofl : OF.length = m := by rw [← hOF, ← HM.out]; simp [ofL]
              have HIX := Lib.hid (fun (i : Nat) (hi : i < m) => show idxI p (nth (lotAt f.lots k).ins i) = nth OF i by
                have hi' : i < (lotAt f.lots k).ins.length := by rw [HM.out]; exact hi
                rw [← hOF]
                unfold ofL idxI
                rw [if_pos (hpi _ (nth_mem' hi')), nth_map hi'])
              have HOFB := Lib.hid (fun (i : Nat) (hi : i < m) => show 0 ≤ nth OF i ∧ nth OF i < s by
                have hi' : i < (lotAt f.lots k).ins.length := by rw [HM.out]; exact hi
                rw [← hOF]
                unfold ofL
                rw [nth_map hi']
                have := List.idxOf_lt_length_of_mem (hpi _ (nth_mem' hi'))
                omega)
              clear hxp hpm htk hpn hpi hin hpb hOF
              go_loopw [67] (fun vi wr => ∃ i : Nat, i ≤ m ∧ vi = .int .i64 i ∧ OwnInts P0 wr (.slice (some ⟨P1, 0, none⟩) m m) (ofT OF i) ∧ w6.grownBy wr (some P1)) (fun vi _ => m - (intOf vi).toNat)
              case atStart => exact ⟨0, by omega, rfl, by rw [ofT_zero, hofl]; exact HOF.out, grown_refl _ _⟩
              case round =>
                obtain ⟨i, hi, rfl, ho, hg⟩ := hrel
                have HO6 := Lib.hid ho
                have HG6 := Lib.hid hg
                clear ho hg
                by_cases hil : i < m
                · have hil' : decide ((i : Int) < m) = true := decide_eq_true (by omega)
                  have hil2 : i < (lotAt f.lots k).ins.length := by rw [HM.out]; exact hil
                  obtain ⟨bi, oi, cix, ⟨ai', hai, _, _, hal⟩, _, _, hic⟩ := HLI.out
                  simp only [Value.slice.injEq] at hai
                  obtain ⟨rfl, _, rfl⟩ := hai
                  obtain rfl : ai = some ⟨bi, oi, none⟩ := by rcases hal with h | h; exact h; omega
                  have qi := hic i hil2
                  have hbiw : bi < w.heap.size := Nat.lt_of_lt_of_le qi.1 hB
                  have HBwr : Hid (Below w.heap.size w wr) := Lib.hid ((HB3.out.trans (HB36.out.mono (by omega))).grown HG6.out (by have := HB36.out.size; omega) (fun j hj => by cases hj; omega))
                  have e1 := (HBwr.out.cell (p := ⟨bi, oi + i, none⟩) hbiw).trans qi.2
                  have HPRr := Lib.hid (HPR.out.grown HG6.out (by simp; omega))
                  have HP2R : Hid (P2 < wr.heap.size ∧ wr.cell? ⟨P2, 0, none⟩ = some (.slice (some ⟨P1, 0, none⟩) m m)) := Lib.hid ⟨by have := HG6.out.size; omega, (HOC.out.grown HG6.out (by simp; omega)).cell⟩
                  have HXR : Hid (w.heap.size < wr.heap.size ∧ wr.cell? ⟨w.heap.size, 0, none⟩ = some (.int .i64 (s : Int))) := Lib.hid (by
                    have h1 := (HBX3.out.below HB36.out (by have := HBX.out.1; omega)).grown HG6.out (by have := HBX.out.1; simp; omega)
                    exact ⟨h1.1, h1.2 0⟩)
                  have hol : (ofT OF i).length = m := by rw [ofT_len (by omega)]; exact hofl
                  have HOR : Hid (P1 < wr.heap.size ∧ wr.cell? ⟨P1, i, none⟩ = some (.int .i64 (nth (ofT OF i) i)) ∧ wr.frozen? ⟨P1, i, none⟩ = false) := Lib.hid ⟨by have := HG6.out.size; omega, HO6.out.cellAt hol.symm (by omega), HO6.out.freeAt hol.symm i⟩
                  obtain ⟨z, hz⟩ : ∃ z, nth OF i = z := ⟨_, rfl⟩
                  have HIDX := Lib.hid (fun W (hb : Below wr.heap.size wr W) => sindex_any _ W (.slice (some ⟨P0, 0, none⟩) s 8) p (nth (lotAt f.lots k).ins i) (by
                    have h1 := ints8 (n := s) (HPRr.out.ext hb).box x.2.1 x.2.2 hn8
                    rw [HTK.out] at h1
                    exact h1))
                  rw [HIX.out i hil, hz] at HIDX
                  have hzb := HOFB.out i hil
                  rw [hz] at hzb
                  have HST := Lib.hid (fun W (hb : Below wr.heap.size wr W) => (HO6.out.below hb).store hol.symm i (y := z) (by unfold I64; omega))
                  rw [← hz, ofT_set (by omega), hz] at HST
                  have HZ := Lib.hid hz
                  clear qi hic hal hz
                  go_wp2
                  obtain ⟨V, hV⟩ : ∃ V : List (Option Value), V = [some (.slice (some ⟨P1, 0, none⟩) m m), some (.int .i64 (i : Int)), some (.pointer (some ⟨w.heap.size, 0, none⟩)), some (.int .i64 (s : Int)), some (.slice (some ⟨P0, 0, none⟩) s 8), some (.int .i64 (nth (lotAt f.lots k).ins i)), some (.int .i64 z), some (.pointer (some ⟨P1, i, none⟩)), none] := ⟨_, rfl⟩
                  have HVV := Lib.hid hV
                  clear hV
                  refine wp_region_V [some 72, some 73, some 74, some 75, some 76, some 77, some 78, some 79, none] (fun L w' xs => ValsAt V L xs ∧ ((L 8 = true → L 0 = true ∧ L 3 = true ∧ L 6 = true) ∧ (L 8 = false → Below wr.heap.size wr w') ∧ (L 8 = true → ∃ w0, Below wr.heap.size wr w0 ∧ w' = w0.setCell ⟨P1, i, none⟩ (.int .i64 z)))) (by kernel_rfl) (by kernel_rfl) (by rfl) (by rfl) (by rfl) ?_ ?_ ?_
                  focus
                    exact fun xs => ⟨ValsAt.none _ _, (fun h => by cases h), (fun _ => below_drewN (Below.refl _ wr) 1), (fun h => by cases h)⟩
                  focus
                    refine ⟨?_, ?_, ?_, ?_, ?_, ?_, ?_, ?_, ?_, trivial⟩
                    all_goals
                      intro L a' w' xs hi hd hf hJ K hK
                      obtain ⟨hv, h0, h1, h2⟩ := hJ
                      have HF := Lib.hid hf
                      have HVA := Lib.hid hv
                      have HLI := Lib.hid hi
                      clear hf hv hi
                    focus
                      clear hd
                      obtain ⟨ρ, hρ⟩ : ∃ ρ, a'.eval = ρ := ⟨_, rfl⟩
                      have hcst : ∀ v, ρ (.const v) = v := fun v => (congrFun hρ (.const v)).symm
                      have l13 : ρ (.tmp 13) = .pointer (some ⟨P2, 0, none⟩) := (congrFun hρ (.tmp 13)).symm.trans (HF.out.lo 13 rfl)
                      have h8 : L 8 = false := by
                        cases h : L 8 with
                        | false => rfl
                        | true => exact absurd ((h0 h).1.symm.trans HLI.out) (by decide)
                      have hb := h1 h8
                      have e3 := (hb.cell (p := ⟨P2, 0, none⟩) HP2R.out.1).trans HP2R.out.2
                      rw [if_pos (by simp [Region.wanted])]
                      unfold Oper.wp
                      rw [hρ]
                      clear hρ
                      go_simp
                      exact hK.out _ _ ⟨HVA.out.set (i := 0) (by rw [HVV.out]; rfl), (by simp only [upd_ne (L := L) (show (3 : Nat) ≠ 0 by decide), upd_ne (L := L) (show (6 : Nat) ≠ 0 by decide), upd_ne (L := L) (show (8 : Nat) ≠ 0 by decide), upd_self]; exact fun h => absurd ((h0 h).1.symm.trans HLI.out) (by decide)), (by simp only [upd_ne (L := L) (show (3 : Nat) ≠ 0 by decide), upd_ne (L := L) (show (6 : Nat) ≠ 0 by decide), upd_ne (L := L) (show (8 : Nat) ≠ 0 by decide), upd_self]; exact h1), (by simp only [upd_ne (L := L) (show (3 : Nat) ≠ 0 by decide), upd_ne (L := L) (show (6 : Nat) ≠ 0 by decide), upd_ne (L := L) (show (8 : Nat) ≠ 0 by decide), upd_self]; exact h2)⟩
                    focus
                      clear hd
                      obtain ⟨ρ, hρ⟩ : ∃ ρ, a'.eval = ρ := ⟨_, rfl⟩
                      have hcst : ∀ v, ρ (.const v) = v := fun v => (congrFun hρ (.const v)).symm
                      have l14 : ρ (.tmp 14) = .int .i64 (i : Int) := (congrFun hρ (.tmp 14)).symm.trans (HF.out.lo 14 rfl)
                      rw [if_pos (by simp [Region.wanted])]
                      unfold Oper.wp
                      rw [hρ]
                      clear hρ
                      go_simp
                      exact hK.out _ _ ⟨HVA.out.set (i := 1) (by rw [HVV.out]; rfl), (by simp only [upd_ne (L := L) (show (0 : Nat) ≠ 1 by decide), upd_ne (L := L) (show (3 : Nat) ≠ 1 by decide), upd_ne (L := L) (show (6 : Nat) ≠ 1 by decide), upd_ne (L := L) (show (8 : Nat) ≠ 1 by decide)]; exact h0), (by simp only [upd_ne (L := L) (show (0 : Nat) ≠ 1 by decide), upd_ne (L := L) (show (3 : Nat) ≠ 1 by decide), upd_ne (L := L) (show (6 : Nat) ≠ 1 by decide), upd_ne (L := L) (show (8 : Nat) ≠ 1 by decide)]; exact h1), (by simp only [upd_ne (L := L) (show (0 : Nat) ≠ 1 by decide), upd_ne (L := L) (show (3 : Nat) ≠ 1 by decide), upd_ne (L := L) (show (6 : Nat) ≠ 1 by decide), upd_ne (L := L) (show (8 : Nat) ≠ 1 by decide)]; exact h2)⟩
                    focus
                      clear hd
                      obtain ⟨ρ, hρ⟩ : ∃ ρ, a'.eval = ρ := ⟨_, rfl⟩
                      have hcst : ∀ v, ρ (.const v) = v := fun v => (congrFun hρ (.const v)).symm
                      have l1 : ρ (.tmp 1) = .pointer (some ⟨w.heap.size, 0, none⟩) := (congrFun hρ (.tmp 1)).symm.trans (HF.out.lo 1 rfl)
                      rw [if_pos (by simp [Region.wanted])]
                      unfold Oper.wp
                      rw [hρ]
                      clear hρ
                      go_simp
                      exact hK.out _ _ ⟨HVA.out.set (i := 2) (by rw [HVV.out]; rfl), (by simp only [upd_ne (L := L) (show (0 : Nat) ≠ 2 by decide), upd_ne (L := L) (show (3 : Nat) ≠ 2 by decide), upd_ne (L := L) (show (6 : Nat) ≠ 2 by decide), upd_ne (L := L) (show (8 : Nat) ≠ 2 by decide)]; exact h0), (by simp only [upd_ne (L := L) (show (0 : Nat) ≠ 2 by decide), upd_ne (L := L) (show (3 : Nat) ≠ 2 by decide), upd_ne (L := L) (show (6 : Nat) ≠ 2 by decide), upd_ne (L := L) (show (8 : Nat) ≠ 2 by decide)]; exact h1), (by simp only [upd_ne (L := L) (show (0 : Nat) ≠ 2 by decide), upd_ne (L := L) (show (3 : Nat) ≠ 2 by decide), upd_ne (L := L) (show (6 : Nat) ≠ 2 by decide), upd_ne (L := L) (show (8 : Nat) ≠ 2 by decide)]; exact h2)⟩
                    focus
                      obtain ⟨d2, _⟩ := hd
                      obtain ⟨ρ, hρ⟩ : ∃ ρ, a'.eval = ρ := ⟨_, rfl⟩
                      have hcst : ∀ v, ρ (.const v) = v := fun v => (congrFun hρ (.const v)).symm
                      have v2 : ρ (.tmp 74) = .pointer (some ⟨w.heap.size, 0, none⟩) := (congrFun hρ (.tmp 74)).symm.trans ((HF.out.ev 2 rfl d2).trans (HVA.out 2 _ (by rw [HVV.out]; rfl) d2))
                      have h8 : L 8 = false := by
                        cases h : L 8 with
                        | false => rfl
                        | true => exact absurd ((h0 h).2.1.symm.trans HLI.out) (by decide)
                      have hb := h1 h8
                      have e3 := (hb.cell (p := ⟨w.heap.size, 0, none⟩) HXR.out.1).trans HXR.out.2
                      rw [if_pos (by simp [Region.wanted])]
                      unfold Oper.wp
                      rw [hρ]
                      clear hρ
                      go_simp
                      exact hK.out _ _ ⟨HVA.out.set (i := 3) (by rw [HVV.out]; rfl), (by simp only [upd_ne (L := L) (show (0 : Nat) ≠ 3 by decide), upd_ne (L := L) (show (6 : Nat) ≠ 3 by decide), upd_ne (L := L) (show (8 : Nat) ≠ 3 by decide), upd_self]; exact fun h => absurd ((h0 h).2.1.symm.trans HLI.out) (by decide)), (by simp only [upd_ne (L := L) (show (0 : Nat) ≠ 3 by decide), upd_ne (L := L) (show (6 : Nat) ≠ 3 by decide), upd_ne (L := L) (show (8 : Nat) ≠ 3 by decide), upd_self]; exact h1), (by simp only [upd_ne (L := L) (show (0 : Nat) ≠ 3 by decide), upd_ne (L := L) (show (6 : Nat) ≠ 3 by decide), upd_ne (L := L) (show (8 : Nat) ≠ 3 by decide), upd_self]; exact h2)⟩
                    focus
                      obtain ⟨d3, _⟩ := hd
                      obtain ⟨ρ, hρ⟩ : ∃ ρ, a'.eval = ρ := ⟨_, rfl⟩
                      have hcst : ∀ v, ρ (.const v) = v := fun v => (congrFun hρ (.const v)).symm
                      have l12 : ρ (.tmp 12) = .pointer (some ⟨P0, 0, none⟩) := (congrFun hρ (.tmp 12)).symm.trans (HF.out.lo 12 rfl)
                      have v3 : ρ (.tmp 75) = .int .i64 (s : Int) := (congrFun hρ (.tmp 75)).symm.trans ((HF.out.ev 3 rfl d3).trans (HVA.out 3 _ (by rw [HVV.out]; rfl) d3))
                      have hs9 : (s : Int) ≤ 8 := by omega
                      rw [if_pos (by simp [Region.wanted])]
                      unfold Oper.wp
                      rw [hρ]
                      clear hρ
                      go_simp
                      exact hK.out _ _ ⟨HVA.out.set (i := 4) (by rw [HVV.out]; rfl), (by simp only [upd_ne (L := L) (show (0 : Nat) ≠ 4 by decide), upd_ne (L := L) (show (3 : Nat) ≠ 4 by decide), upd_ne (L := L) (show (6 : Nat) ≠ 4 by decide), upd_ne (L := L) (show (8 : Nat) ≠ 4 by decide)]; exact h0), (by simp only [upd_ne (L := L) (show (0 : Nat) ≠ 4 by decide), upd_ne (L := L) (show (3 : Nat) ≠ 4 by decide), upd_ne (L := L) (show (6 : Nat) ≠ 4 by decide), upd_ne (L := L) (show (8 : Nat) ≠ 4 by decide)]; exact h1), (by simp only [upd_ne (L := L) (show (0 : Nat) ≠ 4 by decide), upd_ne (L := L) (show (3 : Nat) ≠ 4 by decide), upd_ne (L := L) (show (6 : Nat) ≠ 4 by decide), upd_ne (L := L) (show (8 : Nat) ≠ 4 by decide)]; exact h2)⟩
                    focus
                      clear hd
                      obtain ⟨ρ, hρ⟩ : ∃ ρ, a'.eval = ρ := ⟨_, rfl⟩
                      have hcst : ∀ v, ρ (.const v) = v := fun v => (congrFun hρ (.const v)).symm
                      have l15 : ρ (.tmp 15) = .int .i64 (nth (lotAt f.lots k).ins i) := (congrFun hρ (.tmp 15)).symm.trans (HF.out.lo 15 rfl)
                      rw [if_pos (by simp [Region.wanted])]
                      unfold Oper.wp
                      rw [hρ]
                      clear hρ
                      go_simp
                      exact hK.out _ _ ⟨HVA.out.set (i := 5) (by rw [HVV.out]; rfl), (by simp only [upd_ne (L := L) (show (0 : Nat) ≠ 5 by decide), upd_ne (L := L) (show (3 : Nat) ≠ 5 by decide), upd_ne (L := L) (show (6 : Nat) ≠ 5 by decide), upd_ne (L := L) (show (8 : Nat) ≠ 5 by decide)]; exact h0), (by simp only [upd_ne (L := L) (show (0 : Nat) ≠ 5 by decide), upd_ne (L := L) (show (3 : Nat) ≠ 5 by decide), upd_ne (L := L) (show (6 : Nat) ≠ 5 by decide), upd_ne (L := L) (show (8 : Nat) ≠ 5 by decide)]; exact h1), (by simp only [upd_ne (L := L) (show (0 : Nat) ≠ 5 by decide), upd_ne (L := L) (show (3 : Nat) ≠ 5 by decide), upd_ne (L := L) (show (6 : Nat) ≠ 5 by decide), upd_ne (L := L) (show (8 : Nat) ≠ 5 by decide)]; exact h2)⟩
                    focus
                      obtain ⟨d4, d5, _⟩ := hd
                      obtain ⟨ρ, hρ⟩ : ∃ ρ, a'.eval = ρ := ⟨_, rfl⟩
                      have hcst : ∀ v, ρ (.const v) = v := fun v => (congrFun hρ (.const v)).symm
                      have hfun : ∀ k, ρ (.func k) = .func (.func k) #[] #[] := fun k => (congrFun hρ (.func k)).symm
                      have v4 : ρ (.tmp 76) = .slice (some ⟨P0, 0, none⟩) s 8 := (congrFun hρ (.tmp 76)).symm.trans ((HF.out.ev 4 rfl d4).trans (HVA.out 4 _ (by rw [HVV.out]; rfl) d4))
                      have v5 : ρ (.tmp 77) = .int .i64 (nth (lotAt f.lots k).ins i) := (congrFun hρ (.tmp 77)).symm.trans ((HF.out.ev 5 rfl d5).trans (HVA.out 5 _ (by rw [HVV.out]; rfl) d5))
                      rw [if_pos (by simp [Region.wanted])]
                      unfold Oper.wp
                      rw [hρ]
                      clear hρ
                      have h8 : L 8 = false := by
                        cases h : L 8 with
                        | false => rfl
                        | true => exact absurd ((h0 h).2.2.symm.trans HLI.out) (by decide)
                      have hb := h1 h8
                      have HIX := Lib.hid (HIDX.out w' hb)
                      have H0 := Lib.hid h0
                      have H1 := Lib.hid h1
                      have H2 := Lib.hid h2
                      have H8 := Lib.hid h8
                      clear h0 h1 h2 h8 hb
                      go_simp
                      go_at_call 44
                      refine HIX.out.mono ?_
                      rintro e w5' ⟨rfl, hw5'⟩
                      obtain rfl := hw5'.symm
                      exact hK.out _ _ ⟨HVA.out.set (i := 6) (by rw [HVV.out]; rfl), (by simp only [upd_ne (L := L) (show (0 : Nat) ≠ 6 by decide), upd_ne (L := L) (show (3 : Nat) ≠ 6 by decide), upd_ne (L := L) (show (8 : Nat) ≠ 6 by decide), upd_self]; exact fun h => by rw [H8.out] at h; cases h), (by simp only [upd_ne (L := L) (show (0 : Nat) ≠ 6 by decide), upd_ne (L := L) (show (3 : Nat) ≠ 6 by decide), upd_ne (L := L) (show (8 : Nat) ≠ 6 by decide), upd_self]; exact H1.out), (by simp only [upd_ne (L := L) (show (0 : Nat) ≠ 6 by decide), upd_ne (L := L) (show (3 : Nat) ≠ 6 by decide), upd_ne (L := L) (show (8 : Nat) ≠ 6 by decide), upd_self]; exact H2.out)⟩
                    focus
                      obtain ⟨d0, d1, _, _, d2, d3, d4, d5, d6, _⟩ := hd
                      obtain ⟨ρ, hρ⟩ : ∃ ρ, a'.eval = ρ := ⟨_, rfl⟩
                      have hcst : ∀ v, ρ (.const v) = v := fun v => (congrFun hρ (.const v)).symm
                      have v0 : ρ (.tmp 72) = .slice (some ⟨P1, 0, none⟩) m m := (congrFun hρ (.tmp 72)).symm.trans ((HF.out.ev 0 rfl d0).trans (HVA.out 0 _ (by rw [HVV.out]; rfl) d0))
                      have v1 : ρ (.tmp 73) = .int .i64 (i : Int) := (congrFun hρ (.tmp 73)).symm.trans ((HF.out.ev 1 rfl d1).trans (HVA.out 1 _ (by rw [HVV.out]; rfl) d1))
                      rw [if_pos (by simp [Region.wanted])]
                      unfold Oper.wp
                      rw [hρ]
                      clear hρ
                      go_simp
                      exact hK.out _ _ ⟨HVA.out.set (i := 7) (by rw [HVV.out]; rfl), (by simp only [upd_ne (L := L) (show (0 : Nat) ≠ 7 by decide), upd_ne (L := L) (show (3 : Nat) ≠ 7 by decide), upd_ne (L := L) (show (6 : Nat) ≠ 7 by decide), upd_ne (L := L) (show (8 : Nat) ≠ 7 by decide)]; exact h0), (by simp only [upd_ne (L := L) (show (0 : Nat) ≠ 7 by decide), upd_ne (L := L) (show (3 : Nat) ≠ 7 by decide), upd_ne (L := L) (show (6 : Nat) ≠ 7 by decide), upd_ne (L := L) (show (8 : Nat) ≠ 7 by decide)]; exact h1), (by simp only [upd_ne (L := L) (show (0 : Nat) ≠ 7 by decide), upd_ne (L := L) (show (3 : Nat) ≠ 7 by decide), upd_ne (L := L) (show (6 : Nat) ≠ 7 by decide), upd_ne (L := L) (show (8 : Nat) ≠ 7 by decide)]; exact h2)⟩
                    focus
                      obtain ⟨d7, d6, _, d0, d1, d2, d3, d4, d5, _, _⟩ := hd
                      obtain ⟨ρ, hρ⟩ : ∃ ρ, a'.eval = ρ := ⟨_, rfl⟩
                      have hcst : ∀ v, ρ (.const v) = v := fun v => (congrFun hρ (.const v)).symm
                      have v7 : ρ (.tmp 79) = .pointer (some ⟨P1, i, none⟩) := (congrFun hρ (.tmp 79)).symm.trans ((HF.out.ev 7 rfl d7).trans (HVA.out 7 _ (by rw [HVV.out]; rfl) d7))
                      have v6 : ρ (.tmp 78) = .int .i64 z := (congrFun hρ (.tmp 78)).symm.trans ((HF.out.ev 6 rfl d6).trans (HVA.out 6 _ (by rw [HVV.out]; rfl) d6))
                      rw [if_pos (by simp [Region.wanted])]
                      unfold Oper.wp
                      rw [hρ]
                      clear hρ
                      have hb := h1 HLI.out
                      have e3 := (hb.cell (p := ⟨P1, i, none⟩) HOR.out.1).trans HOR.out.2.1
                      have e4 := (hb.frozen (p := ⟨P1, i, none⟩) HOR.out.1).trans HOR.out.2.2
                      have HBB9 := Lib.hid hb
                      have HD0 := Lib.hid d0
                      have HD3 := Lib.hid d3
                      have HD6 := Lib.hid d6
                      clear h0 h1 h2 hb
                      go_simp
                      exact hK.out undef _ ⟨HVA.out.free (i := 8) (by rw [HVV.out]; rfl) _, (by simp only [upd_ne (L := L) (show (0 : Nat) ≠ 8 by decide), upd_ne (L := L) (show (3 : Nat) ≠ 8 by decide), upd_ne (L := L) (show (6 : Nat) ≠ 8 by decide), upd_self]; exact fun _ => ⟨HD0.out, HD3.out, HD6.out⟩), (by simp only [upd_ne (L := L) (show (0 : Nat) ≠ 8 by decide), upd_ne (L := L) (show (3 : Nat) ≠ 8 by decide), upd_ne (L := L) (show (6 : Nat) ≠ 8 by decide), upd_self]; exact fun h => by cases h), (by simp only [upd_ne (L := L) (show (0 : Nat) ≠ 8 by decide), upd_ne (L := L) (show (3 : Nat) ≠ 8 by decide), upd_ne (L := L) (show (6 : Nat) ≠ 8 by decide), upd_self]; exact fun _ => ⟨_, HBB9.out, rfl⟩)⟩
                  focus
                    intro L w' xs hL hJ
                    obtain ⟨hv, h0, h1, h2⟩ := hJ
                    have e0 : xs 0 = .slice (some ⟨P1, 0, none⟩) m m := hv 0 _ (by rw [HVV.out]; rfl) (hL 0 (by decide))
                    have e1 : xs 1 = .int .i64 (i : Int) := hv 1 _ (by rw [HVV.out]; rfl) (hL 1 (by decide))
                    have e2 : xs 2 = .pointer (some ⟨w.heap.size, 0, none⟩) := hv 2 _ (by rw [HVV.out]; rfl) (hL 2 (by decide))
                    have e3 : xs 3 = .int .i64 (s : Int) := hv 3 _ (by rw [HVV.out]; rfl) (hL 3 (by decide))
                    have e4 : xs 4 = .slice (some ⟨P0, 0, none⟩) s 8 := hv 4 _ (by rw [HVV.out]; rfl) (hL 4 (by decide))
                    have e5 : xs 5 = .int .i64 (nth (lotAt f.lots k).ins i) := hv 5 _ (by rw [HVV.out]; rfl) (hL 5 (by decide))
                    have e6 : xs 6 = .int .i64 z := hv 6 _ (by rw [HVV.out]; rfl) (hL 6 (by decide))
                    have e7 : xs 7 = .pointer (some ⟨P1, i, none⟩) := hv 7 _ (by rw [HVV.out]; rfl) (hL 7 (by decide))
                    simp only [putGo, Act.put, List.setIfInBounds_toArray, List.set_cons_zero, List.set_cons_succ, e0, e1, e2, e3, e4, e5, e6, e7]
                    clear hv e0 e1 e2 e3 e4 e5 e6 e7
                  obtain ⟨w0, hb0, hw0⟩ := h2 (hL 8 (by decide))
                  rw [hw0]
                  have HB0 := Lib.hid hb0
                  clear h0 h1 h2 hL hw0 hb0
                  go_wp2
                  go_roundw
                  case rel =>
                    refine ⟨i + 1, by omega, by go_num, HST.out w0 HB0.out, ?_⟩
                    exact grown_trans HG6.out (grown_trans (grown_below HB0.out (some P1)) (grown_setCell w0 ⟨P1, i, none⟩ _))
                  case measure => simp [intOf]; omega
                · have hil' : decide ((i : Int) < m) = false := decide_eq_false (by omega)
                  have him : i = m := by omega
                  have HOE : Hid (OwnInts P0 wr (.slice (some ⟨P1, 0, none⟩) m m) OF) := Lib.hid (by
                    have h1 := HO6.out
                    rw [him, ← hofl, ofT_all] at h1
                    rw [hofl] at h1
                    exact h1)
                  clear HO6
                  obtain ⟨wE, rfl⟩ : ∃ W, W = wr := ⟨_, rfl⟩
                  have hw3s : w3.heap.size = P0 := hP0
                  have HEE : Hid (Below w3.heap.size w3 wE) := Lib.hid (by
                    rw [hw3s]
                    exact HB36.out.grown HG6.out (by have := HB36.out.size; omega) (fun j hj => by cases hj; omega))
                  have HME : Hid (StMem wD w.heap.size D bm ri S (A ++ Bl) N M rs2 wE) := Lib.hid ((HREL.out.mem.pass HIT3.out HG3.out HRI.out).ext HEE.out)
                  have HPRe := Lib.hid (HPR.out.grown HG6.out (by simp; omega))
                  have HOCe := Lib.hid (HOC.out.grown HG6.out (by simp; omega))
                  have HLBe := Lib.hid (HLB3.out.ext HEE.out)
                  have hzE : P2 < wE.heap.size := by have := HG6.out.size; omega
                  have HPL : Hid (StP f k (A.map (fun p => p.1) ++ x :: Bl.map (fun p => p.1)) N M) := Lib.hid (by
                    have h1 := HREL.out.plain
                    rw [HLW2.out, List.map_append, List.map_cons] at h1
                    exact h1)
                  have HLM : Hid ((A ++ Bl).map (fun p => p.1) = A.map (fun p => p.1) ++ Bl.map (fun p => p.1)) := Lib.hid (by rw [List.map_append])
                  have HHW : Hid (left.length = (A ++ Bl).length + 1) := Lib.hid (by rw [HLW2.out]; simp; omega)
                  have HLFT := Lib.hid HITC.out.count
                  obtain ⟨zy, ry⟩ := HLBe.out
                  clear hzE hw3s
                  cases kn
                  · have HKN' : Hid ((lotAt f.lots k).known = false) := HKN
                    have c13 := HOCe.out.cell
                    have HSO := Lib.hid (sort_own HOE.out)
                    go_wp2_with (first
                      | (go_at_call 45; refine HSO.out.mono ?_; rintro e w7 ⟨rfl, ho7, hg7⟩; have HO7 := Lib.hid ho7; have HG7 : Hid (wE.grownBy w7 (some P1)) := Lib.hid hg7; have HPR7 := Lib.hid (HPRe.out.grown HG7.out (by simp; omega)); have HOC7 := Lib.hid (HOCe.out.grown HG7.out (by simp; omega)); have HOC8 := Lib.hid (HOC7.out.alloc (.cells arr 64)); have c14 := HOC8.out.cell; clear ho7 hg7)
                      | ((with_reducible refine wpList_load8 (.tmp 12) HPR7.out ?_ ?_ ?_ ?_); rotate_left; rfl; rfl; rfl; rw [HAR.out])
                      | ((with_reducible refine wpList_store8 (.tmp 16) (.tmp 86) HX8.out ?_ ?_ ?_ ?_ ?_); rotate_left; rfl; rfl; rfl; (rw [HAR.out]; rfl); rw [HAR.out]))
                    obtain ⟨w8q, hw8q⟩ : ∃ W, w7.alloc (.cells arr 64) = W := ⟨_, rfl⟩
                    obtain ⟨Q0, hQ0⟩ : ∃ q, w7.heap.size = q := ⟨_, rfl⟩
                    have hz7 : P2 < Q0 := by rw [← hQ0]; exact HOC7.out.lt
                    have HRQ : Hid (Row8 w8q Q0 x.1) := Lib.hid (by
                      have h1 := Row8.new w7 x.2.1
                      rw [HAR.out, hw8q, hQ0] at h1
                      exact h1)
                    have HE7 : Hid (Below w3.heap.size w3 w7) := Lib.hid (HEE.out.grown HG7.out HEE.out.size (fun j hj => by cases hj; have := hP0; omega))
                    have HE8 : Hid (Below w3.heap.size w3 w8q) := Lib.hid (by rw [← hw8q]; exact HE7.out.alloc HE7.out.size _)
                    obtain ⟨sv, hsv⟩ : ∃ q, sortI OF = q := ⟨_, rfl⟩
                    rw [hsv] at HO7
                    have HO8 : Hid (OwnInts P0 w8q (.slice (some ⟨P1, 0, none⟩) m m) sv) := Lib.hid (by rw [← hw8q]; exact HO7.out.alloc _)
                    have HSVP : Hid (sv.Perm (ofL p (lotAt f.lots k).ins)) := Lib.hid (by rw [← hsv, HOFD.out]; exact sortI_perm OF)
                    have hsvl : sv.length = m := by rw [HSVP.out.length_eq, HOFD.out, hofl]
                    have HSVN : Hid sv.Nodup := Lib.hid (HSVP.out.nodup_iff.2 (ofL_nodup HIND.out HPI.out))
                    have HSVB := Lib.hid (fun (i : Nat) (hi : i < m) => show ∃ j : Nat, nth sv i = (j : Int) ∧ j < s by
                      have h1 : nth sv i ∈ OF := by
                        rw [← HOFD.out]
                        exact HSVP.out.mem_iff.1 (nth_mem' (by omega))
                      obtain ⟨t, ht, he⟩ := List.mem_iff_getElem.1 h1
                      have h2 := HOFB.out t (by omega)
                      rw [nth_lt ht, he] at h2
                      exact ⟨(nth sv i).toNat, by omega, by omega⟩)
                    have hbf : 0 ≤ beforeI f k ∧ beforeI f k ≤ 1000000 := by have h1 := beforeI_mono (f := f) (show k ≤ f.lots.length by omega); have h2 := beforeI_mono (f := f) (show 0 ≤ k by omega); have h3 : beforeI f 0 = f.senders := rfl; have := H50.out; omega
                    have hbf1 := hbf.1
                    have hbf2 := hbf.2
                    have HM8q : Hid (StMem wD w.heap.size D bm ri S (A ++ Bl) N M rs2 w8q) := Lib.hid ((HREL.out.mem.pass HIT3.out HG3.out HRI.out).ext HE8.out)
                    have HOC8q : Hid (Cell1 w8q P2 (.slice (some ⟨P1, 0, none⟩) m m)) := Lib.hid (by rw [← hw8q]; exact HOC7.out.alloc _)
                    have HPR8 : Hid (Row8 w8q P0 x.1) := Lib.hid (by rw [← hw8q]; exact HPR7.out.ext (box_below' _ _))
                    rw [hw8q, hQ0]
                    clear hw8q hQ0 hsv hbf zy ry c13 c14 HSO HOC8
                    go_loopw [89] (fun vi wr => ∃ i : Nat, i ≤ m ∧ vi = .int .i64 i ∧ Row8 wr Q0 (padL (putsL (beforeI f k) (sv.take i) (idL m) p)) ∧ w8q.grownBy wr (some Q0)) (fun vi _ => m - (intOf vi).toNat)
                    case atStart => exact ⟨0, by omega, rfl, by rw [List.take_zero, putsL_nil, ← HXP.out]; exact HRQ.out, grown_refl _ _⟩
                    case round =>
                      obtain ⟨i2, hi2, rfl, hrow, hg⟩ := hrel
                      have HRW := Lib.hid hrow
                      have HG8 := Lib.hid hg
                      clear hrow hg HRQ
                      have HDwr : Hid (Below D wD wr) := Lib.hid (HM8q.out.below.grown HG8.out (Nat.le_of_lt HM8q.out.next.lt) (fun j hj => by cases hj; omega))
                      by_cases hil : i2 < m
                      · have hil'' : decide ((i2 : Int) < m) = true := decide_eq_true (by omega)
                        obtain ⟨j, hj, hjs⟩ := HSVB.out i2 hil
                        have e1 := (HO8.out.kept HG8.out (.inr (by simp [Value.ownBlock]; omega))).cellAt hsvl.symm (j := i2) (by omega)
                        rw [hj] at e1
                        have hj8 : (j : Int) < 8 := by omega
                        have e2 := (HSPD.out.below HDwr.out (by omega)).cell
                        have e3 := HRW.out.cell (j := j) (by omega)
                        have e4 := HRW.out.free (j := j)
                        have HST := Lib.hid (HRW.out.set j (beforeI f k + (i2 : Int)))
                        have HSU : Hid ((padL (putsL (beforeI f k) (sv.take i2) (idL m) p)).set j (beforeI f k + (i2 : Int)) = padL (putsL (beforeI f k) (sv.take (i2 + 1)) (idL m) p)) := Lib.hid (by
                          rw [padL_set _ (by rw [putsL_len]; omega), putsL_succ HSVN.out (by omega) hj (by omega)]
                          congr 3
                          unfold idL
                          rw [nth_lt (by simp; omega), List.getElem_map, List.getElem_range]
                          rfl)
                        rw [HSU.out] at HST
                        clear hj
                        go_wp2
                        go_roundw
                        case rel => exact ⟨i2 + 1, by omega, by go_num, HST.out, grown_trans HG8.out (grown_setCell wr ⟨Q0, j, none⟩ _)⟩
                        case measure => simp [intOf]; omega
                      · have hil'' : decide ((i2 : Int) < m) = false := decide_eq_false (by omega)
                        have hie : i2 = m := by omega
                        have HRF : Hid (Row8 wr Q0 (padL (putsL (beforeI f k) sv (idL m) p))) := Lib.hid (by
                          have h1 := HRW.out
                          rw [hie, ← hsvl, List.take_length, hsvl] at h1
                          exact h1)
                        clear HRW
                        have HUN : Hid ((lotAt f.lots k).known = false) := HKN'
                        have HQO : Hid (putsL (beforeI f k) sv (idL m) p ∈ asgTo f (k + 1)) := Lib.hid (by
                          have h1 := (outs_unknown HLOT.out (asg_all h0 k HLK.out p HPM.out) HUN.out HSVP.out (putsL (beforeI f k) sv (idL m) p)).2 ⟨idL m, by unfold permsOf; rw [HUN.out]; exact mem_permsL.2 (by rw [HM.out]; exact idL_perm m), rfl⟩
                          obtain ⟨π, hπ, he⟩ := List.mem_map.1 h1
                          exact mem_asgTo.2 ⟨p, HPM.out, π, hπ, he.symm⟩)
                        obtain ⟨y, hy⟩ := asg_vals h0 h8 HLK1.out (by have h1 := beforeI_mono (f := f) (show k + 1 ≤ f.lots.length by omega); have := H50.out; omega) _ HQO.out
                        have HY := Lib.hid hy
                        rw [← hy] at HRF
                        have HMW : Hid (StMem wD w.heap.size D bm ri S (A ++ Bl) N M rs2 wr) := Lib.hid ((HREL.out.mem.pass HIT3.out HG3.out HRI.out).ext (HE8.out.grown HG8.out HE8.out.size (fun j hj => by cases hj; have := hP0; omega)))
                        have HEW : Hid (Below w3.heap.size w3 wr) := Lib.hid (HE8.out.grown HG8.out HE8.out.size (fun j hj => by cases hj; have := hP0; omega))
                        have HOCW := Lib.hid (HOC8q.out.grown HG8.out (by simp; omega))
                        have HPRW := Lib.hid (HPR8.out.grown HG8.out (by simp; omega))
                        have HOFW : Hid (OwnInts P0 wr (.slice (some ⟨P1, 0, none⟩) m m) sv) := Lib.hid (HO8.out.kept HG8.out (.inr (by simp [Value.ownBlock]; omega)))
                        have HLBW := Lib.hid (HLB3.out.ext HEW.out)
                        clear hy
                        by_cases hym : y ∈ M
                        · have hbq : decide (y ∈ M) = true := decide_eq_true hym
                          have HYM := Lib.hid hym
                          have HBQ := Lib.hid hbq
                          clear hym hbq
                          go_wp2_with (first
                            | ((with_reducible refine wpList_load8 (.tmp 16) HRF.out ?_ ?_ ?_ ?_); rotate_left; rfl; rfl; rfl)
                            | (at_lookup; refine wpList_lookup_k encK8 rfl (.tmp 100) (.tmp 101) false rfl Try.underlying65 (Try.zeroValue4 _) rfl HMW.out.met (x := y) rfl ?_; simp only [Bool.false_eq_true, if_false]; rw [klook_keys8, HBQ.out]))
                          refine ⟨?_, ?_⟩
                          focus
                            refine ⟨rs2, ?_⟩
                            repeat apply Exists.intro
                            refine ⟨?_, rfl⟩
                            refine ⟨A ++ Bl, N, M, HMW.out, ?_, HREL.out.few⟩
                            rw [HLM.out]
                            exact StP.skip h0 HLT.out hlt HPL.out HXP.out HPM.out HUN.out HYM.out HSVP.out (by rw [HM.out]; exact HY.out)
                          rw [HMW.out.iter.count, HLFT.out, HHW.out]
                          exact Nat.lt_succ_self _
                        · have hbq : decide (y ∈ M) = false := decide_eq_false hym
                          have HYM := Lib.hid hym
                          have HBQ := Lib.hid hbq
                          clear hym hbq
                          go_wp2_with (first
                            | ((with_reducible refine wpList_load8 (.tmp 16) HRF.out ?_ ?_ ?_ ?_); rotate_left; rfl; rfl; rfl)
                            | (at_lookup; refine wpList_lookup_k encK8 rfl (.tmp 100) (.tmp 101) false rfl Try.underlying65 (Try.zeroValue4 _) rfl HMW.out.met (x := y) rfl ?_; simp only [Bool.false_eq_true, if_false]; rw [klook_keys8, HBQ.out])
                            | (at_mapUpdate; refine wpList_update_k encK8 rfl (.tmp 103) (.tmp 104) (.const (.bool true)) rfl Try.underlying65 rfl HMW.out.met (x := y) (v := .bool true) rfl rfl ?_; intro wM hmM hgM hzM; rw [kset_keys8] at hmM; have HMM := Lib.hid hmM; have HGM := Lib.hid hgM; clear hmM hgM hzM; have HLBM := Lib.hid (HLBW.out.grown HGM.out (by simp; omega)); obtain ⟨zy, ry⟩ := HLBM.out)
                            | fail)
                          have HLBM := Lib.hid (HLBW.out.grown HGM.out (by simp; omega))
                          obtain ⟨MM, hMM⟩ : ∃ q, addK M y = q := ⟨_, rfl⟩
                          rw [hMM] at HMM
                          have HTM : Hid (StMem wD w.heap.size D bm ri S (A ++ Bl) N MM rs2 wM) := Lib.hid (HMW.out.meet HMM.out HGM.out HRI.out (by omega))
                          have HTP := Lib.hid (HPRW.out.grown HGM.out (by simp; omega))
                          have HTC := Lib.hid (HOCW.out.grown HGM.out (by simp; omega))
                          have HTO : Hid (OwnInts P0 wM (.slice (some ⟨P1, 0, none⟩) m m) sv) := Lib.hid (HOFW.out.kept HGM.out (.inr (by simp [Value.ownBlock]; omega)))
                          have HTW : Hid (Below w.heap.size w wM) := Lib.hid ((HB3.out.trans (HEW.out.mono (by have := HB3.out.size; omega))).grown HGM.out (by have := HEW.out.size; have := HB3.out.size; omega) (fun q hq => by cases hq; omega))
                          have HTS := Lib.hid (fun q => outs_unknown HLOT.out (asg_all h0 k HLK.out p HPM.out) HUN.out HSVP.out q)
                          have HTMET : Hid (∀ z ∈ MM, z ∈ M ∨ ∃ s' : List Int, s'.Perm (ofL p (lotAt f.lots k).ins) ∧ z.1 = padL (putsL (beforeI f k) s' (idL (lotAt f.lots k).ins.length) p)) := Lib.hid (fun z hz => by
                            rw [← hMM] at hz
                            rcases mem_addK.1 hz with rfl | hz
                            · exact .inr ⟨sv, HSVP.out, by rw [HM.out]; exact HY.out⟩
                            · exact .inl hz)
                          clear hMM
                          clear zy ry
                          obtain ⟨zy, ry⟩ := HLBM.out
                          have HLOTM : Hid (IsLot B wM (.slice ai m ci) (.bool false) (.slice ap (lotAt f.lots k).perm.length cp) (lotAt f.lots k)) := Lib.hid (by
                            have h1 := HLI.out
                            rw [HM.out] at h1
                            exact ⟨h1.below HTW.out hB, by rw [HKN.out], HLP.out.below HTW.out hB⟩)
                          have hzw : w.heap.size ≤ wM.heap.size := HTW.out.size
                          go_wp2_with fail
                          refine (ways_any B wM _ _ _ (lotAt f.lots k) HLOTM.out (by omega) (by rw [HM.out]; omega)).mono ?_
                          rintro e wG ⟨gf, lb, bx, rfl, heg, hbx1, hbx2, hit, hbG⟩
                          have HBG := Lib.hid hbG
                          have HITG := Lib.hid hit
                          have HTMG : Hid (StMem wD w.heap.size D bm ri S (A ++ Bl) N MM rs2 wG) := Lib.hid (HTM.out.ext hbG)
                          have HTPG := Lib.hid (HTP.out.ext hbG)
                          have HTCG := Lib.hid (HTC.out.ext hbG)
                          have HTOG : Hid (OwnInts P0 wG (.slice (some ⟨P1, 0, none⟩) m m) sv) := Lib.hid (HTO.out.below hbG)
                          have HTWG : Hid (Below w.heap.size w wG) := Lib.hid (HTW.out.trans (hbG.mono HTW.out.size))
                          have HSPG : Hid (Cell1 wG bs (.int .i64 (beforeI f k))) := Lib.hid (HSPD.out.below HTMG.out.below (by omega))
                          have hbx3 : D < bx := by have := HTM.out.next.lt; omega
                          have HBX3 := Lib.hid hbx3
                          have hPG : P2 < wG.heap.size := HTCG.out.lt
                          have HPLN : Hid (∀ j, j < (permsOf (lotAt f.lots k)).length → (rowAt (permsOf (lotAt f.lots k)) j).length = m ∧ ∀ q ∈ rowAt (permsOf (lotAt f.lots k)) j, 0 ≤ q ∧ q ≤ 8) := Lib.hid (fun j hj => by
                            rw [rowAt_get hj]
                            obtain ⟨p1, p2, p3⟩ := permB_parts (permsOf_perm HLOT.out (List.getElem_mem hj))
                            rw [HM.out] at p2 p1
                            exact ⟨p2, fun q hq => by have := p1 q hq; omega⟩)
                          clear hit hbG zy ry
                          go_wp2
                          refine (wpIn_wide (n := 11)).1 ?_
                          refine range_lawB (w := wG) rfl heg HITG.out (Turned.refl _ _) (fun q hq => by rcases hq with hq | rfl; have := HTWG.out.size; omega; exact hbx2) (fun q => q = D) (fun q hq => ⟨by rw [hq]; exact HTMG.out.next.lt, by rw [hq]; rintro (h | h); omega; have := HBX3.out; omega⟩)
                            (fun i W args h => by obtain ⟨v, rfl, _⟩ := h; rfl)
                            (fun s' i W => ∃ N', KMap enc8 W D (keys8 N') ∧ (∀ y : K8, y ∈ N' ↔ y ∈ N ∨ ∃ j, j < i ∧ y.1 = padL (putsL (beforeI f k) sv (rowAt (permsOf (lotAt f.lots k)) j) p)) ∧ Turned (fun q => q = D ∨ wG.heap.size ≤ q) wG W)
                            (fun _ _ _ _ => False) ?hI (fun _ _ _ _ _ _ h _ => h) ?h0 ?hround ?hdone (fun _ _ _ _ _ _ _ _ _ h _ => h.elim)
                          case hI =>
                            rintro s' i A' B' hs' ⟨N', h1, h2, h3⟩ ht
                            have := HTMG.out.next.lt
                            exact ⟨N', h1.turned ht (by omega), h2, h3.trans (ht.mono fun q _ hq => .inr hq.1)⟩
                          case h0 =>
                            intro s' W1 hs' hs1 hb
                            exact ⟨N, HTMG.out.next.ext hb, fun y => by simp, Turned.of_below hb⟩
                          case hround =>
                            rintro l s' i W args hs' hsW hi ⟨N', h1, h2, h3⟩ ⟨v, rfl, hv⟩
                            have HN1 := Lib.hid h1
                            have HN2 := Lib.hid h2
                            have HTG := Lib.hid h3
                            have HV := Lib.hid hv
                            obtain ⟨av, cv0, hva⟩ := hv.ints.form
                            subst hva
                            obtain ⟨PI, hPI⟩ : ∃ q, rowAt (permsOf (lotAt f.lots k)) i = q := ⟨_, rfl⟩
                            have HPN2 := HPLN.out i hi
                            rw [hPI] at HPN2
                            have HPI2 := Lib.hid hPI
                            have hPI' : (permsOf (lotAt f.lots k)).getD i [] = PI := hPI
                            rw [hPI'] at HV ⊢
                            rw [HPN2.1] at HV ⊢
                            clear h1 h2 h3 hv hPI hPI' 
                            gi_wp2
                            refine ⟨Below.refl _ _, fun W2 ht => ?_⟩
                            have HZ2 : Hid (W2.heap.size = W2.heap.size) := Lib.hid rfl
                            have HW2 : Hid (Turned (fun q => q = D ∨ wG.heap.size ≤ q) wG W2) := Lib.hid (HTG.out.trans (ht.mono fun q _ hq => .inr hq.1))
                            have HS2 : Hid (s' ≤ W2.heap.size) := Lib.hid (by have := ht.size; omega)
                            have HSW : Hid (wG.heap.size + 2 ≤ s') := Lib.hid hs'
                            have HG2 : Hid (wG.heap.size + 2 ≤ W2.heap.size) := Lib.hid (by have := HS2.out; omega)
                            have HN3 : Hid (KMap enc8 W2 D (keys8 N')) := Lib.hid (HN1.out.turned ht (by have := HTMG.out.next.lt; omega))
                            have HV2 : Hid (IsIntsX (fun q => q < B ∨ wG.heap.size + 2 ≤ q) W2 (.slice av m cv0) PI) := Lib.hid (HV.out.turned ht (fun q hq h => by have := HTWG.out.size; omega))
                            have HP2 : Hid (Row8 W2 P0 x.1) := Lib.hid (HTPG.out.turned HW2.out (by omega))
                            have HC2 : Hid (Cell1 W2 P2 (.slice (some ⟨P1, 0, none⟩) m m)) := Lib.hid (HTCG.out.turned HW2.out (by omega))
                            have HS3 : Hid (Cell1 W2 bs (.int .i64 (beforeI f k))) := Lib.hid (HSPG.out.turned HW2.out (by have := HSPG.out.lt; omega))
                            have HD2 : Hid (Cell1 W2 (D + 1 + 1) (.map (some D))) := Lib.hid (HTMG.out.cell.turned HW2.out (by have := HTMG.out.cell.lt; omega))
                            clear ht HN1 HV HTG
                            have c2 := HC2.out.cell
                            have HC2a := Lib.hid (HC2.out.alloc (.cells arr 64))
                            have c3 := HC2a.out.cell
                            gi_wp2_with (first
                              | ((with_reducible refine wpListIn_load8 (.tmp 12) HP2.out ?_ ?_ ?_ ?_); rotate_left; rfl; rfl; rfl; rw [HAR.out])
                              | ((with_reducible refine wpListIn_store8 (.tmp 20) (.tmp 108) HX8.out ?_ ?_ ?_ ?_ ?_); rotate_left; rfl; rfl; rfl; (rw [HAR.out]; rfl); rw [HAR.out]))
                            obtain ⟨w3q, hw3q⟩ : ∃ W, W2.alloc (.cells arr 64) = W := ⟨_, rfl⟩
                            obtain ⟨R0, hR0⟩ : ∃ q, W2.heap.size = q := ⟨_, rfl⟩
                            have HRN : Hid (Row8 w3q R0 x.1) := Lib.hid (by
                              have h1 := Row8.new W2 x.2.1
                              rw [HAR.out, hw3q, hR0] at h1
                              exact h1)
                            have HB3q : Hid (Below R0 W2 w3q) := Lib.hid (by rw [← hw3q, ← hR0]; exact box_below' _ _)
                            have HRG : Hid (wG.heap.size + 2 ≤ R0) := Lib.hid (by rw [← hR0]; exact HG2.out)
                            have HSR0 : Hid (s' ≤ R0) := Lib.hid (by rw [← hR0]; exact HS2.out)
                            have hR3 : P2 < R0 := by have := HRG.out; omega
                            have HR9 := Lib.hid hR0
                            rw [hw3q, hR0]
                            clear hw3q hR0 c2 c3 HC2a
                            gi_loopw [111] (fun vi wr => ∃ i2 : Nat, i2 ≤ m ∧ vi = .int .i64 i2 ∧ Row8 wr R0 (padL (putsL (beforeI f k) (sv.take i2) PI p)) ∧ w3q.grownBy wr (some R0)) (fun vi _ => m - (intOf vi).toNat)
                            case atStart => exact ⟨0, by omega, rfl, by rw [List.take_zero, putsL_nil, ← HXP.out]; exact HRN.out, grown_refl _ _⟩
                            case round =>
                              obtain ⟨i2, hi2, rfl, hrow, hg⟩ := hrel
                              have HRW9 := Lib.hid hrow
                              have HBR : Hid (Below R0 W2 wr) := Lib.hid (HB3q.out.grown hg (by have := HR9.out; have := HB3q.out.size; omega) (fun q hq => by cases hq; exact Nat.le_refl _))
                              have HG9 := Lib.hid hg
                              clear hrow hg HRN
                              by_cases hil : i2 < m
                              · have hil'' : decide ((i2 : Int) < m) = true := decide_eq_true (by omega)
                                obtain ⟨bv, ov, cvx, ⟨av', hav, _, _, hal⟩, _, _, hvc⟩ := HV2.out.ints
                                simp only [Value.slice.injEq] at hav
                                obtain ⟨rfl, hav2, rfl⟩ := hav
                                have HPN3 := HPN2.1
                                obtain rfl : av = some ⟨bv, ov, none⟩ := by rcases hal with h | h; exact h; omega
                                obtain ⟨j, hj, hjs⟩ := HSVB.out i2 hil
                                have e1a := HTOG.out.cellAt hsvl.symm (j := i2) (by omega)
                                rw [hj] at e1a
                                have e1 := (HBR.out.cell (p := ⟨P1, i2, none⟩) (by show P1 < R0; omega)).trans ((HW2.out.cell (p := ⟨P1, i2, none⟩) (by show P1 < wG.heap.size; omega) (by show ¬ (P1 = D ∨ wG.heap.size ≤ P1); omega)).trans e1a)
                                have HE1R : Hid (bs < wr.heap.size ∧ wr.cell? ⟨bs, 0, none⟩ = some (.int .i64 (beforeI f k))) := Lib.hid (by
                                  have h1 := HS3.out.below HBR.out (by have := HSPG.out.lt; omega)
                                  exact ⟨h1.lt, h1.cell⟩)
                                have hq := hvc i2 (by omega)
                                have HE2R : Hid (bv < wr.heap.size ∧ wr.cell? ⟨bv, ov + i2, none⟩ = some (.int .i64 (nth PI i2))) := Lib.hid (by
                                  have h1 := hq.1
                                  exact ⟨Nat.lt_of_lt_of_le h1 (by have := HBR.out.size; have := HR9.out; omega), (HBR.out.cell (p := ⟨bv, ov + i2, none⟩) (by show bv < R0; have := HR9.out; omega)).trans hq.2⟩)
                                have HPIB : Hid (0 ≤ nth PI i2 ∧ nth PI i2 ≤ 8) := Lib.hid (HPN2.2 _ (nth_mem' (by omega)))
                                have HORR : Hid (R0 < wr.heap.size ∧ (∃ u, wr.cell? ⟨R0, j, none⟩ = some (.int .i64 u)) ∧ wr.frozen? ⟨R0, j, none⟩ = false) := Lib.hid ⟨HRW9.out.lt, ⟨_, HRW9.out.cell (j := j) (by omega)⟩, HRW9.out.free (j := j)⟩
                                have HSU : Hid ((padL (putsL (beforeI f k) (sv.take i2) PI p)).set j (beforeI f k + nth PI i2) = padL (putsL (beforeI f k) (sv.take (i2 + 1)) PI p)) := Lib.hid (by
                                  rw [padL_set _ (by rw [putsL_len]; omega), putsL_succ HSVN.out (by omega) hj (by omega)])
                                have HST := Lib.hid (fun W (hb : Below wr.heap.size wr W) => (HRW9.out.ext hb).set j (beforeI f k + nth PI i2))
                                rw [HSU.out] at HST
                                clear hj hq hvc hal e1a hav2 HPN3
                                gi_wp2
                                obtain ⟨V, hV⟩ : ∃ V : List (Option Value), V = [some (.int .i64 (j : Int)), some (.int .i64 (beforeI f k)), some (.slice (some ⟨bv, ov, none⟩) m cv0), some (.int .i64 (i2 : Int)), some (.pointer (some ⟨bv, ov + i2, none⟩)), some (.int .i64 (nth PI i2)), some (.int .i64 (beforeI f k + nth PI i2)), some (.pointer (some ⟨R0, j, none⟩)), none] := ⟨_, rfl⟩
                                have HVV := Lib.hid hV
                                clear hV
                                refine wpIn_region_V [some 116, some 117, some 118, some 119, some 120, some 121, some 122, some 123, none] (fun L w' xs => ValsAt V L xs ∧ ((L 8 = true → L 1 = true ∧ L 5 = true) ∧ (L 8 = false → Below wr.heap.size wr w') ∧ (L 8 = true → ∃ w0, Below wr.heap.size wr w0 ∧ w' = w0.setCell ⟨R0, j, none⟩ (.int .i64 (beforeI f k + nth PI i2))))) (by kernel_rfl) (by kernel_rfl) (by rfl) (by rfl) (by rfl) ?_ ?_ ?_
                                focus
                                  exact fun xs => ⟨ValsAt.none _ _, (fun h => by cases h), (fun _ => below_drewN (Below.refl _ wr) 1), (fun h => by cases h)⟩
                                focus
                                  refine ⟨?_, ?_, ?_, ?_, ?_, ?_, ?_, ?_, ?_, trivial⟩
                                  all_goals
                                    intro L a' w' xs hi hd hf hJ K hK
                                    obtain ⟨hv, h0, h1, h2⟩ := hJ
                                    have HF := Lib.hid hf
                                    have HVA := Lib.hid hv
                                    have HLI := Lib.hid hi
                                    clear hf hv hi
                                  focus
                                    clear hd
                                    obtain ⟨ρ, hρ⟩ : ∃ ρ, a'.eval = ρ := ⟨_, rfl⟩
                                    have hcst : ∀ v, ρ (.const v) = v := fun v => (congrFun hρ (.const v)).symm
                                    have l22 : ρ (.tmp 22) = .int .i64 (j : Int) := (congrFun hρ (.tmp 22)).symm.trans (HF.out.lo 22 rfl)
                                    rw [if_pos (by simp [Region.wanted])]
                                    unfold Oper.wpIn
                                    refine ⟨fun _ _ => trivial, ?_⟩
                                    rw [Oper.semAt_plain (Fence.wide.inRound l) _ _ (by intro c hc; cases hc)]
                                    rw [hρ]
                                    clear hρ
                                    go_simp
                                    exact hK.out _ _ ⟨HVA.out.set (i := 0) (by rw [HVV.out]; rfl), (by simp only [upd_ne (L := L) (show (1 : Nat) ≠ 0 by decide), upd_ne (L := L) (show (5 : Nat) ≠ 0 by decide), upd_ne (L := L) (show (8 : Nat) ≠ 0 by decide)]; exact h0), (by simp only [upd_ne (L := L) (show (1 : Nat) ≠ 0 by decide), upd_ne (L := L) (show (5 : Nat) ≠ 0 by decide), upd_ne (L := L) (show (8 : Nat) ≠ 0 by decide)]; exact h1), (by simp only [upd_ne (L := L) (show (1 : Nat) ≠ 0 by decide), upd_ne (L := L) (show (5 : Nat) ≠ 0 by decide), upd_ne (L := L) (show (8 : Nat) ≠ 0 by decide)]; exact h2)⟩
                                  focus
                                    clear hd
                                    obtain ⟨ρ, hρ⟩ : ∃ ρ, a'.eval = ρ := ⟨_, rfl⟩
                                    have hcst : ∀ v, ρ (.const v) = v := fun v => (congrFun hρ (.const v)).symm
                                    have l7 : ρ (.tmp 7) = .pointer (some ⟨bs, 0, none⟩) := (congrFun hρ (.tmp 7)).symm.trans (HF.out.lo 7 rfl)
                                    have h8 : L 8 = false := by
                                      cases h : L 8 with
                                      | false => rfl
                                      | true => exact absurd ((h0 h).1.symm.trans HLI.out) (by decide)
                                    have hb := h1 h8
                                    have e3 := (hb.cell (p := ⟨bs, 0, none⟩) HE1R.out.1).trans HE1R.out.2
                                    rw [if_pos (by simp [Region.wanted])]
                                    unfold Oper.wpIn
                                    refine ⟨fun _ _ => trivial, ?_⟩
                                    rw [Oper.semAt_plain (Fence.wide.inRound l) _ _ (by intro c hc; cases hc)]
                                    rw [hρ]
                                    clear hρ
                                    go_simp
                                    exact hK.out _ _ ⟨HVA.out.set (i := 1) (by rw [HVV.out]; rfl), (by simp only [upd_ne (L := L) (show (5 : Nat) ≠ 1 by decide), upd_ne (L := L) (show (8 : Nat) ≠ 1 by decide), upd_self]; exact fun h => absurd ((h0 h).1.symm.trans HLI.out) (by decide)), (by simp only [upd_ne (L := L) (show (5 : Nat) ≠ 1 by decide), upd_ne (L := L) (show (8 : Nat) ≠ 1 by decide), upd_self]; exact h1), (by simp only [upd_ne (L := L) (show (5 : Nat) ≠ 1 by decide), upd_ne (L := L) (show (8 : Nat) ≠ 1 by decide), upd_self]; exact h2)⟩
                                  focus
                                    clear hd
                                    obtain ⟨ρ, hρ⟩ : ∃ ρ, a'.eval = ρ := ⟨_, rfl⟩
                                    have hcst : ∀ v, ρ (.const v) = v := fun v => (congrFun hρ (.const v)).symm
                                    have l19 : ρ (.tmp 19) = .slice (some ⟨bv, ov, none⟩) m cv0 := (congrFun hρ (.tmp 19)).symm.trans (HF.out.lo 19 rfl)
                                    rw [if_pos (by simp [Region.wanted])]
                                    unfold Oper.wpIn
                                    refine ⟨fun _ _ => trivial, ?_⟩
                                    rw [Oper.semAt_plain (Fence.wide.inRound l) _ _ (by intro c hc; cases hc)]
                                    rw [hρ]
                                    clear hρ
                                    go_simp
                                    exact hK.out _ _ ⟨HVA.out.set (i := 2) (by rw [HVV.out]; rfl), (by simp only [upd_ne (L := L) (show (1 : Nat) ≠ 2 by decide), upd_ne (L := L) (show (5 : Nat) ≠ 2 by decide), upd_ne (L := L) (show (8 : Nat) ≠ 2 by decide)]; exact h0), (by simp only [upd_ne (L := L) (show (1 : Nat) ≠ 2 by decide), upd_ne (L := L) (show (5 : Nat) ≠ 2 by decide), upd_ne (L := L) (show (8 : Nat) ≠ 2 by decide)]; exact h1), (by simp only [upd_ne (L := L) (show (1 : Nat) ≠ 2 by decide), upd_ne (L := L) (show (5 : Nat) ≠ 2 by decide), upd_ne (L := L) (show (8 : Nat) ≠ 2 by decide)]; exact h2)⟩
                                  focus
                                    clear hd
                                    obtain ⟨ρ, hρ⟩ : ∃ ρ, a'.eval = ρ := ⟨_, rfl⟩
                                    have hcst : ∀ v, ρ (.const v) = v := fun v => (congrFun hρ (.const v)).symm
                                    have l21 : ρ (.tmp 21) = .int .i64 (i2 : Int) := (congrFun hρ (.tmp 21)).symm.trans (HF.out.lo 21 rfl)
                                    rw [if_pos (by simp [Region.wanted])]
                                    unfold Oper.wpIn
                                    refine ⟨fun _ _ => trivial, ?_⟩
                                    rw [Oper.semAt_plain (Fence.wide.inRound l) _ _ (by intro c hc; cases hc)]
                                    rw [hρ]
                                    clear hρ
                                    go_simp
                                    exact hK.out _ _ ⟨HVA.out.set (i := 3) (by rw [HVV.out]; rfl), (by simp only [upd_ne (L := L) (show (1 : Nat) ≠ 3 by decide), upd_ne (L := L) (show (5 : Nat) ≠ 3 by decide), upd_ne (L := L) (show (8 : Nat) ≠ 3 by decide)]; exact h0), (by simp only [upd_ne (L := L) (show (1 : Nat) ≠ 3 by decide), upd_ne (L := L) (show (5 : Nat) ≠ 3 by decide), upd_ne (L := L) (show (8 : Nat) ≠ 3 by decide)]; exact h1), (by simp only [upd_ne (L := L) (show (1 : Nat) ≠ 3 by decide), upd_ne (L := L) (show (5 : Nat) ≠ 3 by decide), upd_ne (L := L) (show (8 : Nat) ≠ 3 by decide)]; exact h2)⟩
                                  focus
                                    obtain ⟨d2, d3, _⟩ := hd
                                    obtain ⟨ρ, hρ⟩ : ∃ ρ, a'.eval = ρ := ⟨_, rfl⟩
                                    have hcst : ∀ v, ρ (.const v) = v := fun v => (congrFun hρ (.const v)).symm
                                    have v2 : ρ (.tmp 118) = .slice (some ⟨bv, ov, none⟩) m cv0 := (congrFun hρ (.tmp 118)).symm.trans ((HF.out.ev 2 rfl d2).trans (HVA.out 2 _ (by rw [HVV.out]; rfl) d2))
                                    have v3 : ρ (.tmp 119) = .int .i64 (i2 : Int) := (congrFun hρ (.tmp 119)).symm.trans ((HF.out.ev 3 rfl d3).trans (HVA.out 3 _ (by rw [HVV.out]; rfl) d3))
                                    have e4 : (i2 : Int) < m := by omega
                                    rw [if_pos (by simp [Region.wanted])]
                                    unfold Oper.wpIn
                                    refine ⟨fun _ _ => trivial, ?_⟩
                                    rw [Oper.semAt_plain (Fence.wide.inRound l) _ _ (by intro c hc; cases hc)]
                                    rw [hρ]
                                    clear hρ
                                    go_simp
                                    exact hK.out _ _ ⟨HVA.out.set (i := 4) (by rw [HVV.out]; rfl), (by simp only [upd_ne (L := L) (show (1 : Nat) ≠ 4 by decide), upd_ne (L := L) (show (5 : Nat) ≠ 4 by decide), upd_ne (L := L) (show (8 : Nat) ≠ 4 by decide)]; exact h0), (by simp only [upd_ne (L := L) (show (1 : Nat) ≠ 4 by decide), upd_ne (L := L) (show (5 : Nat) ≠ 4 by decide), upd_ne (L := L) (show (8 : Nat) ≠ 4 by decide)]; exact h1), (by simp only [upd_ne (L := L) (show (1 : Nat) ≠ 4 by decide), upd_ne (L := L) (show (5 : Nat) ≠ 4 by decide), upd_ne (L := L) (show (8 : Nat) ≠ 4 by decide)]; exact h2)⟩
                                  focus
                                    obtain ⟨d4, _⟩ := hd
                                    obtain ⟨ρ, hρ⟩ : ∃ ρ, a'.eval = ρ := ⟨_, rfl⟩
                                    have hcst : ∀ v, ρ (.const v) = v := fun v => (congrFun hρ (.const v)).symm
                                    have v4 : ρ (.tmp 120) = .pointer (some ⟨bv, ov + i2, none⟩) := (congrFun hρ (.tmp 120)).symm.trans ((HF.out.ev 4 rfl d4).trans (HVA.out 4 _ (by rw [HVV.out]; rfl) d4))
                                    have h8 : L 8 = false := by
                                      cases h : L 8 with
                                      | false => rfl
                                      | true => exact absurd ((h0 h).2.symm.trans HLI.out) (by decide)
                                    have hb := h1 h8
                                    have e3 := (hb.cell (p := ⟨bv, ov + i2, none⟩) HE2R.out.1).trans HE2R.out.2
                                    rw [if_pos (by simp [Region.wanted])]
                                    unfold Oper.wpIn
                                    refine ⟨fun _ _ => trivial, ?_⟩
                                    rw [Oper.semAt_plain (Fence.wide.inRound l) _ _ (by intro c hc; cases hc)]
                                    rw [hρ]
                                    clear hρ
                                    go_simp
                                    exact hK.out _ _ ⟨HVA.out.set (i := 5) (by rw [HVV.out]; rfl), (by simp only [upd_ne (L := L) (show (1 : Nat) ≠ 5 by decide), upd_ne (L := L) (show (8 : Nat) ≠ 5 by decide), upd_self]; exact fun h => absurd ((h0 h).2.symm.trans HLI.out) (by decide)), (by simp only [upd_ne (L := L) (show (1 : Nat) ≠ 5 by decide), upd_ne (L := L) (show (8 : Nat) ≠ 5 by decide), upd_self]; exact h1), (by simp only [upd_ne (L := L) (show (1 : Nat) ≠ 5 by decide), upd_ne (L := L) (show (8 : Nat) ≠ 5 by decide), upd_self]; exact h2)⟩
                                  focus
                                    obtain ⟨d1, d5, _⟩ := hd
                                    obtain ⟨ρ, hρ⟩ : ∃ ρ, a'.eval = ρ := ⟨_, rfl⟩
                                    have hcst : ∀ v, ρ (.const v) = v := fun v => (congrFun hρ (.const v)).symm
                                    have v1 : ρ (.tmp 117) = .int .i64 (beforeI f k) := (congrFun hρ (.tmp 117)).symm.trans ((HF.out.ev 1 rfl d1).trans (HVA.out 1 _ (by rw [HVV.out]; rfl) d1))
                                    have v5 : ρ (.tmp 121) = .int .i64 (nth PI i2) := (congrFun hρ (.tmp 121)).symm.trans ((HF.out.ev 5 rfl d5).trans (HVA.out 5 _ (by rw [HVV.out]; rfl) d5))
                                    have e7 : IntKind.i64.wrap (beforeI f k + nth PI i2) = beforeI f k + nth PI i2 := by have h1 := HPIB.out; rw [IntWalk.i64_in _ (by omega)]
                                    rw [if_pos (by simp [Region.wanted])]
                                    unfold Oper.wpIn
                                    refine ⟨fun _ _ => trivial, ?_⟩
                                    rw [Oper.semAt_plain (Fence.wide.inRound l) _ _ (by intro c hc; cases hc)]
                                    rw [hρ]
                                    clear hρ
                                    go_simp
                                    exact hK.out _ _ ⟨HVA.out.set (i := 6) (by rw [HVV.out]; rfl), (by simp only [upd_ne (L := L) (show (1 : Nat) ≠ 6 by decide), upd_ne (L := L) (show (5 : Nat) ≠ 6 by decide), upd_ne (L := L) (show (8 : Nat) ≠ 6 by decide)]; exact h0), (by simp only [upd_ne (L := L) (show (1 : Nat) ≠ 6 by decide), upd_ne (L := L) (show (5 : Nat) ≠ 6 by decide), upd_ne (L := L) (show (8 : Nat) ≠ 6 by decide)]; exact h1), (by simp only [upd_ne (L := L) (show (1 : Nat) ≠ 6 by decide), upd_ne (L := L) (show (5 : Nat) ≠ 6 by decide), upd_ne (L := L) (show (8 : Nat) ≠ 6 by decide)]; exact h2)⟩
                                  focus
                                    obtain ⟨d0, _, d1, d2, d3, d4, d5, d6, _⟩ := hd
                                    obtain ⟨ρ, hρ⟩ : ∃ ρ, a'.eval = ρ := ⟨_, rfl⟩
                                    have hcst : ∀ v, ρ (.const v) = v := fun v => (congrFun hρ (.const v)).symm
                                    have l20 : ρ (.tmp 20) = .pointer (some ⟨R0, 0, none⟩) := (congrFun hρ (.tmp 20)).symm.trans (HF.out.lo 20 rfl)
                                    have v0 : ρ (.tmp 116) = .int .i64 (j : Int) := (congrFun hρ (.tmp 116)).symm.trans ((HF.out.ev 0 rfl d0).trans (HVA.out 0 _ (by rw [HVV.out]; rfl) d0))
                                    have e3 : (j : Int) < 8 := by omega
                                    rw [if_pos (by simp [Region.wanted])]
                                    unfold Oper.wpIn
                                    refine ⟨fun _ _ => trivial, ?_⟩
                                    rw [Oper.semAt_plain (Fence.wide.inRound l) _ _ (by intro c hc; cases hc)]
                                    rw [hρ]
                                    clear hρ
                                    go_simp
                                    exact hK.out _ _ ⟨HVA.out.set (i := 7) (by rw [HVV.out]; rfl), (by simp only [upd_ne (L := L) (show (1 : Nat) ≠ 7 by decide), upd_ne (L := L) (show (5 : Nat) ≠ 7 by decide), upd_ne (L := L) (show (8 : Nat) ≠ 7 by decide)]; exact h0), (by simp only [upd_ne (L := L) (show (1 : Nat) ≠ 7 by decide), upd_ne (L := L) (show (5 : Nat) ≠ 7 by decide), upd_ne (L := L) (show (8 : Nat) ≠ 7 by decide)]; exact h1), (by simp only [upd_ne (L := L) (show (1 : Nat) ≠ 7 by decide), upd_ne (L := L) (show (5 : Nat) ≠ 7 by decide), upd_ne (L := L) (show (8 : Nat) ≠ 7 by decide)]; exact h2)⟩
                                  focus
                                    obtain ⟨d7, d6, d0, d1, d2, d3, d4, d5, _, _⟩ := hd
                                    obtain ⟨ρ, hρ⟩ : ∃ ρ, a'.eval = ρ := ⟨_, rfl⟩
                                    have hcst : ∀ v, ρ (.const v) = v := fun v => (congrFun hρ (.const v)).symm
                                    have v7 : ρ (.tmp 123) = .pointer (some ⟨R0, j, none⟩) := (congrFun hρ (.tmp 123)).symm.trans ((HF.out.ev 7 rfl d7).trans (HVA.out 7 _ (by rw [HVV.out]; rfl) d7))
                                    have v6 : ρ (.tmp 122) = .int .i64 (beforeI f k + nth PI i2) := (congrFun hρ (.tmp 122)).symm.trans ((HF.out.ev 6 rfl d6).trans (HVA.out 6 _ (by rw [HVV.out]; rfl) d6))
                                    rw [if_pos (by simp [Region.wanted])]
                                    unfold Oper.wpIn
                                    refine ⟨fun _ _ => trivial, ?_⟩
                                    rw [Oper.semAt_plain (Fence.wide.inRound l) _ _ (by intro c hc; cases hc)]
                                    rw [hρ]
                                    clear hρ
                                    have hb := h1 HLI.out
                                    obtain ⟨uu, huu⟩ := HORR.out.2.1
                                    have e3 := (hb.cell (p := ⟨R0, j, none⟩) HORR.out.1).trans huu
                                    have e4 := (hb.frozen (p := ⟨R0, j, none⟩) HORR.out.1).trans HORR.out.2.2
                                    have HBB9 := Lib.hid hb
                                    have HD1 := Lib.hid d1
                                    have HD5 := Lib.hid d5
                                    clear h0 h1 h2 hb
                                    go_simp
                                    exact hK.out undef _ ⟨HVA.out.free (i := 8) (by rw [HVV.out]; rfl) _, (by simp only [upd_ne (L := L) (show (1 : Nat) ≠ 8 by decide), upd_ne (L := L) (show (5 : Nat) ≠ 8 by decide), upd_self]; exact fun _ => ⟨HD1.out, HD5.out⟩), (by simp only [upd_ne (L := L) (show (1 : Nat) ≠ 8 by decide), upd_ne (L := L) (show (5 : Nat) ≠ 8 by decide), upd_self]; exact fun h => by cases h), (by simp only [upd_ne (L := L) (show (1 : Nat) ≠ 8 by decide), upd_ne (L := L) (show (5 : Nat) ≠ 8 by decide), upd_self]; exact fun _ => ⟨_, HBB9.out, rfl⟩)⟩
                                focus
                                  intro L w' xs hL hJ
                                  obtain ⟨hv, h0, h1, h2⟩ := hJ
                                  have e0 : xs 0 = .int .i64 (j : Int) := hv 0 _ (by rw [HVV.out]; rfl) (hL 0 (by decide))
                                  have e1 : xs 1 = .int .i64 (beforeI f k) := hv 1 _ (by rw [HVV.out]; rfl) (hL 1 (by decide))
                                  have e2 : xs 2 = .slice (some ⟨bv, ov, none⟩) m cv0 := hv 2 _ (by rw [HVV.out]; rfl) (hL 2 (by decide))
                                  have e3 : xs 3 = .int .i64 (i2 : Int) := hv 3 _ (by rw [HVV.out]; rfl) (hL 3 (by decide))
                                  have e4 : xs 4 = .pointer (some ⟨bv, ov + i2, none⟩) := hv 4 _ (by rw [HVV.out]; rfl) (hL 4 (by decide))
                                  have e5 : xs 5 = .int .i64 (nth PI i2) := hv 5 _ (by rw [HVV.out]; rfl) (hL 5 (by decide))
                                  have e6 : xs 6 = .int .i64 (beforeI f k + nth PI i2) := hv 6 _ (by rw [HVV.out]; rfl) (hL 6 (by decide))
                                  have e7 : xs 7 = .pointer (some ⟨R0, j, none⟩) := hv 7 _ (by rw [HVV.out]; rfl) (hL 7 (by decide))
                                  simp only [putGo, Act.put, List.setIfInBounds_toArray, List.set_cons_zero, List.set_cons_succ, e0, e1, e2, e3, e4, e5, e6, e7]
                                  clear hv e0 e1 e2 e3 e4 e5 e6 e7
                                obtain ⟨w0, hb0, hw0⟩ := h2 (hL 8 (by decide))
                                rw [hw0]
                                have HB0 := Lib.hid hb0
                                clear h0 h1 h2 hL hw0 hb0
                                gi_wp2
                                go_roundw
                                case rel => exact ⟨i2 + 1, by omega, by go_num, HST.out w0 HB0.out, grown_trans HG9.out (grown_trans (grown_below HB0.out (some R0)) (grown_setCell w0 ⟨R0, j, none⟩ _))⟩
                                case measure => simp [intOf]; omega
                              · have hil'' : decide ((i2 : Int) < m) = false := decide_eq_false (by omega)
                                have hie : i2 = m := by omega
                                have HRF2 : Hid (Row8 wr R0 (padL (putsL (beforeI f k) sv PI p))) := Lib.hid (by
                                  have h1 := HRW9.out
                                  rw [hie, ← hsvl, List.take_length] at h1
                                  exact h1)
                                clear HRW9
                                have HPIM : Hid (PI ∈ permsOf (lotAt f.lots k)) := Lib.hid (by rw [← HPI2.out, rowAt_get hi]; exact List.getElem_mem hi)
                                have HQO2 : Hid (putsL (beforeI f k) sv PI p ∈ asgTo f (k + 1)) := Lib.hid (by
                                  obtain ⟨π, hπ, he⟩ := List.mem_map.1 ((HTS.out _).2 ⟨PI, HPIM.out, rfl⟩)
                                  exact mem_asgTo.2 ⟨p, HPM.out, π, hπ, he.symm⟩)
                                obtain ⟨y2, hy2⟩ := asg_vals h0 h8 HLK1.out (by have h1 := beforeI_mono (f := f) (show k + 1 ≤ f.lots.length by omega); have := H50.out; omega) _ HQO2.out
                                have HY2 := Lib.hid hy2
                                rw [← hy2] at HRF2
                                have HNr := Lib.hid (HN3.out.below HBR.out (by omega))
                                have HDr := Lib.hid (HD2.out.below HBR.out (by omega))
                                have c9 := HDr.out.cell
                                clear hy2
                                gi_wp2_with (first
                                  | ((with_reducible refine wpListIn_load8 (.tmp 20) HRF2.out ?_ ?_ ?_ ?_); rotate_left; rfl; rfl; rfl)
                                  | (gi_at_mapUpdate; refine wpListIn_update_k encK8 rfl (.tmp 125) (.tmp 126) (.const (.bool true)) rfl Try.underlying65 rfl HNr.out (x := y2) (v := .bool true) rfl rfl ?_; intro wU hmU hgU hzU; rw [kset_keys8] at hmU; have HMU := Lib.hid hmU; have HGU := Lib.hid hgU; clear hmU hgU hzU))
                                have hTU : Turned (fun q => q = D ∨ s' ≤ q) W2 wU := (Turned.mono (X := fun q => q = D ∨ s' ≤ q) ⟨HBR.out.os, HBR.out.tape, HBR.out.output, HBR.out.size, fun q hq hx => HBR.out.block q (by have := HR9.out; omega)⟩ (fun q _ h => h)).trans (Turned.of_grown HGU.out (fun q e => by cases e; exact .inl rfl))
                                refine ⟨hTU, addK N' y2, HMU.out, fun yy => ?_, HW2.out.trans (hTU.mono fun q hq h => ?_)⟩
                                · rw [mem_addK, HN2.out yy]
                                  constructor
                                  · rintro (rfl | h | ⟨j, hj, e⟩)
                                    · exact .inr ⟨i, by omega, by rw [HPI2.out]; exact HY2.out⟩
                                    · exact .inl h
                                    · exact .inr ⟨j, by omega, e⟩
                                  · rintro (h | ⟨j, hj, e⟩)
                                    · exact .inr (.inl h)
                                    · by_cases hji : j = i
                                      · subst hji
                                        rw [HPI2.out] at e
                                        exact .inl (Subtype.ext (e.trans HY2.out.symm))
                                      · exact .inr (.inr ⟨j, by omega, e⟩)
                                · rcases h with h | h
                                  · exact .inl h
                                  · exact .inr (by have := HRG.out; have := HSW.out; omega)

                          case hdone =>
                            rintro d s' W hd hds hsW ⟨N', h1, h2, h3⟩ hk
                            have HN1 := Lib.hid h1
                            have HMF : Hid (StMem wD w.heap.size D bm ri S (A ++ Bl) N' MM rs2 W) := Lib.hid (HTMG.out.more h1 h3 HRI.out (by omega))
                            have HNF : Hid (∀ y : K8, y ∈ N' ↔ y ∈ N ∨ ∃ q ∈ outsL f k p, y.1 = padL q) := Lib.hid (fun y => by
                              rw [h2 y]
                              constructor
                              · rintro (h | ⟨j, hj, e⟩)
                                · exact .inl h
                                · exact .inr ⟨_, (HTS.out _).2 ⟨_, by rw [rowAt_get hj]; exact List.getElem_mem hj, rfl⟩, e⟩
                              · rintro (h | ⟨q, hq, e⟩)
                                · exact .inl h
                                · obtain ⟨π, hπ, rfl⟩ := (HTS.out _).1 hq
                                  obtain ⟨j, hj, rfl⟩ := List.mem_iff_getElem.1 hπ
                                  exact .inr ⟨j, hj, by rw [rowAt_get hj]; exact e⟩)
                            have HPF : Hid (StP f k ((A ++ Bl).map fun p => p.1) N' MM) := Lib.hid (by
                              rw [HLM.out]
                              exact HPL.out.full HXP.out HPM.out HNF.out HTMET.out)
                            have HMKS : Hid (MarksOk w.heap.size (d :: rs2) W) := Lib.hid (HMF.out.marks.cons (by have := HTWG.out.size; omega) hk (fun h => by have := HTMG.out.marks.lt d h; omega))
                            have HWF : Hid (Below w.heap.size w W) := Lib.hid (HTWG.out.trans (h3.below HTWG.out.size (fun q hq h => by omega)))
                            have hln := h1.len (R := 3) Try.underlying65
                            rw [keys8_len] at hln
                            have c10 := HMF.out.cell.cell
                            have HND : Hid N'.Nodup := Lib.hid (keys8_nodup h1)
                            have HHL : Hid (N'.length ≤ (asgTo f (k + 1)).length) := Lib.hid (HPF.out.le HND.out)
                            clear h1 h2 h3 hk
                            by_cases hbig : 5040 < N'.length
                            · have hbig' : decide (5040 < (N'.length : Int)) = true := decide_eq_true (by omega)
                              have HE : Hid (allE f = 2) := Lib.hid (by rw [HE1.out, many_at (by have := HHL.out; omega) hlt]; rfl)
                              have HR : Hid (allR f = []) := Lib.hid (by rw [HRR.out, HE.out]; rfl)
                              go_wp2
                              refine leaves_marks (d :: rs2) _ HMKS.out fun W' ht => ?_
                              refine ⟨.tuple #[.slice none 0 0, .int .i64 2], by simp [results, Try.results15, go_sem], .slice none 0 0, by rw [HE.out], ?_, ?_⟩
                              · rw [HR.out]; exact OwnMat.nil _ _
                              · exact HWF.out.trans (ht.below HWF.out.size (fun q hq hm => by have := (HMKS.out.at_ q hm).1; omega))
                            · have hbig' : decide (5040 < (N'.length : Int)) = false := decide_eq_false (by omega)
                              have HFW : Hid (N'.length ≤ 5040) := Lib.hid (by omega)
                              go_wp2
                              refine ⟨?_, ?_⟩
                              focus
                                refine ⟨d :: rs2, ?_⟩
                                repeat apply Exists.intro
                                refine ⟨?_, rfl⟩
                                exact ⟨A ++ Bl, N', MM, ⟨HMF.out.iter, HMF.out.next, HMF.out.met, HMF.out.cell, HMF.out.below, HMKS.out⟩, HPF.out, HFW.out⟩
                              rw [HMF.out.iter.count, HLFT.out, HHW.out]
                              exact Nat.lt_succ_self _



                  · have hbf : 0 ≤ beforeI f k ∧ beforeI f k ≤ 1000000 := by have h1 := beforeI_mono (f := f) (show k ≤ f.lots.length by omega); have h2 := beforeI_mono (f := f) (show 0 ≤ k by omega); have h3 : beforeI f 0 = f.senders := rfl; have := H50.out; omega
                    have hbf1 := hbf.1
                    have hbf2 := hbf.2
                    clear hbf
                    obtain ⟨wM, hwM⟩ : ∃ W, wE = W := ⟨_, rfl⟩
                    rw [hwM] at HME HPRe HOCe HOE HLBe ⊢
                    have HTM := HME
                    have HTP := HPRe
                    have HTC := HOCe
                    have HTO := HOE
                    have HLBM := HLBe
                    have HTW : Hid (Below w.heap.size w wM) := Lib.hid (by rw [← hwM]; exact HB3.out.trans (HEE.out.mono HB3.out.size))
                    have hsvl := hofl
                    have HSVN : Hid OF.Nodup := Lib.hid (by rw [← HOFD.out]; exact ofL_nodup HIND.out HPI.out)
                    have HSVB := Lib.hid (fun (i : Nat) (hi : i < m) => show ∃ j : Nat, nth OF i = (j : Int) ∧ j < s by
                      have h2 := HOFB.out i hi
                      exact ⟨(nth OF i).toNat, by omega, by omega⟩)
                    have HTS := Lib.hid (fun q => outs_known HLOT.out (asg_all h0 k HLK.out p HPM.out) q)
                    rw [HOFD.out] at HTS
                    have HTMET : Hid (∀ z ∈ M, z ∈ M ∨ ∃ s' : List Int, s'.Perm (ofL p (lotAt f.lots k).ins) ∧ z.1 = padL (putsL (beforeI f k) s' (idL (lotAt f.lots k).ins.length) p)) := Lib.hid (fun z hz => .inl hz)
                    clear hwM
                    clear zy ry
                    obtain ⟨zy, ry⟩ := HLBM.out
                    have HLOTM : Hid (IsLot B wM (.slice ai m ci) (.bool true) (.slice ap (lotAt f.lots k).perm.length cp) (lotAt f.lots k)) := Lib.hid (by
                      have h1 := HLI.out
                      rw [HM.out] at h1
                      exact ⟨h1.below HTW.out hB, by rw [HKN.out], HLP.out.below HTW.out hB⟩)
                    have hzw : w.heap.size ≤ wM.heap.size := HTW.out.size
                    go_wp2_with fail
                    refine (ways_any B wM _ _ _ (lotAt f.lots k) HLOTM.out (by omega) (by rw [HM.out]; omega)).mono ?_
                    rintro e wG ⟨gf, lb, bx, rfl, heg, hbx1, hbx2, hit, hbG⟩
                    have HBG := Lib.hid hbG
                    have HITG := Lib.hid hit
                    have HTMG : Hid (StMem wD w.heap.size D bm ri S (A ++ Bl) N M rs2 wG) := Lib.hid (HTM.out.ext hbG)
                    have HTPG := Lib.hid (HTP.out.ext hbG)
                    have HTCG := Lib.hid (HTC.out.ext hbG)
                    have HTOG : Hid (OwnInts P0 wG (.slice (some ⟨P1, 0, none⟩) m m) OF) := Lib.hid (HTO.out.below hbG)
                    have HTWG : Hid (Below w.heap.size w wG) := Lib.hid (HTW.out.trans (hbG.mono HTW.out.size))
                    have HSPG : Hid (Cell1 wG bs (.int .i64 (beforeI f k))) := Lib.hid (HSPD.out.below HTMG.out.below (by omega))
                    have hbx3 : D < bx := by have := HTM.out.next.lt; omega
                    have HBX3 := Lib.hid hbx3
                    have hPG : P2 < wG.heap.size := HTCG.out.lt
                    have HPLN : Hid (∀ j, j < (permsOf (lotAt f.lots k)).length → (rowAt (permsOf (lotAt f.lots k)) j).length = m ∧ ∀ q ∈ rowAt (permsOf (lotAt f.lots k)) j, 0 ≤ q ∧ q ≤ 8) := Lib.hid (fun j hj => by
                      rw [rowAt_get hj]
                      obtain ⟨p1, p2, p3⟩ := permB_parts (permsOf_perm HLOT.out (List.getElem_mem hj))
                      rw [HM.out] at p2 p1
                      exact ⟨p2, fun q hq => by have := p1 q hq; omega⟩)
                    clear hit hbG zy ry
                    go_wp2
                    refine (wpIn_wide (n := 11)).1 ?_
                    refine range_lawB (w := wG) rfl heg HITG.out (Turned.refl _ _) (fun q hq => by rcases hq with hq | rfl; have := HTWG.out.size; omega; exact hbx2) (fun q => q = D) (fun q hq => ⟨by rw [hq]; exact HTMG.out.next.lt, by rw [hq]; rintro (h | h); omega; have := HBX3.out; omega⟩)
                      (fun i W args h => by obtain ⟨v, rfl, _⟩ := h; rfl)
                      (fun s' i W => ∃ N', KMap enc8 W D (keys8 N') ∧ (∀ y : K8, y ∈ N' ↔ y ∈ N ∨ ∃ j, j < i ∧ y.1 = padL (putsL (beforeI f k) OF (rowAt (permsOf (lotAt f.lots k)) j) p)) ∧ Turned (fun q => q = D ∨ wG.heap.size ≤ q) wG W)
                      (fun _ _ _ _ => False) ?hI (fun _ _ _ _ _ _ h _ => h) ?h0 ?hround ?hdone (fun _ _ _ _ _ _ _ _ _ h _ => h.elim)
                    case hI =>
                      rintro s' i A' B' hs' ⟨N', h1, h2, h3⟩ ht
                      have := HTMG.out.next.lt
                      exact ⟨N', h1.turned ht (by omega), h2, h3.trans (ht.mono fun q _ hq => .inr hq.1)⟩
                    case h0 =>
                      intro s' W1 hs' hs1 hb
                      exact ⟨N, HTMG.out.next.ext hb, fun y => by simp, Turned.of_below hb⟩
                    case hround =>
                      rintro l s' i W args hs' hsW hi ⟨N', h1, h2, h3⟩ ⟨v, rfl, hv⟩
                      have HN1 := Lib.hid h1
                      have HN2 := Lib.hid h2
                      have HTG := Lib.hid h3
                      have HV := Lib.hid hv
                      obtain ⟨av, cv0, hva⟩ := hv.ints.form
                      subst hva
                      obtain ⟨PI, hPI⟩ : ∃ q, rowAt (permsOf (lotAt f.lots k)) i = q := ⟨_, rfl⟩
                      have HPN2 := HPLN.out i hi
                      rw [hPI] at HPN2
                      have HPI2 := Lib.hid hPI
                      have hPI' : (permsOf (lotAt f.lots k)).getD i [] = PI := hPI
                      rw [hPI'] at HV ⊢
                      rw [HPN2.1] at HV ⊢
                      clear h1 h2 h3 hv hPI hPI' 
                      gi_wp2
                      refine ⟨Below.refl _ _, fun W2 ht => ?_⟩
                      have HZ2 : Hid (W2.heap.size = W2.heap.size) := Lib.hid rfl
                      have HW2 : Hid (Turned (fun q => q = D ∨ wG.heap.size ≤ q) wG W2) := Lib.hid (HTG.out.trans (ht.mono fun q _ hq => .inr hq.1))
                      have HS2 : Hid (s' ≤ W2.heap.size) := Lib.hid (by have := ht.size; omega)
                      have HSW : Hid (wG.heap.size + 2 ≤ s') := Lib.hid hs'
                      have HG2 : Hid (wG.heap.size + 2 ≤ W2.heap.size) := Lib.hid (by have := HS2.out; omega)
                      have HN3 : Hid (KMap enc8 W2 D (keys8 N')) := Lib.hid (HN1.out.turned ht (by have := HTMG.out.next.lt; omega))
                      have HV2 : Hid (IsIntsX (fun q => q < B ∨ wG.heap.size + 2 ≤ q) W2 (.slice av m cv0) PI) := Lib.hid (HV.out.turned ht (fun q hq h => by have := HTWG.out.size; omega))
                      have HP2 : Hid (Row8 W2 P0 x.1) := Lib.hid (HTPG.out.turned HW2.out (by omega))
                      have HC2 : Hid (Cell1 W2 P2 (.slice (some ⟨P1, 0, none⟩) m m)) := Lib.hid (HTCG.out.turned HW2.out (by omega))
                      have HS3 : Hid (Cell1 W2 bs (.int .i64 (beforeI f k))) := Lib.hid (HSPG.out.turned HW2.out (by have := HSPG.out.lt; omega))
                      have HD2 : Hid (Cell1 W2 (D + 1 + 1) (.map (some D))) := Lib.hid (HTMG.out.cell.turned HW2.out (by have := HTMG.out.cell.lt; omega))
                      clear ht HN1 HV HTG
                      have c2 := HC2.out.cell
                      have HC2a := Lib.hid (HC2.out.alloc (.cells arr 64))
                      have c3 := HC2a.out.cell
                      gi_wp2_with (first
                        | ((with_reducible refine wpListIn_load8 (.tmp 12) HP2.out ?_ ?_ ?_ ?_); rotate_left; rfl; rfl; rfl; rw [HAR.out])
                        | ((with_reducible refine wpListIn_store8 (.tmp 20) (.tmp 108) HX8.out ?_ ?_ ?_ ?_ ?_); rotate_left; rfl; rfl; rfl; (rw [HAR.out]; rfl); rw [HAR.out]))
                      obtain ⟨w3q, hw3q⟩ : ∃ W, W2.alloc (.cells arr 64) = W := ⟨_, rfl⟩
                      obtain ⟨R0, hR0⟩ : ∃ q, W2.heap.size = q := ⟨_, rfl⟩
                      have HRN : Hid (Row8 w3q R0 x.1) := Lib.hid (by
                        have h1 := Row8.new W2 x.2.1
                        rw [HAR.out, hw3q, hR0] at h1
                        exact h1)
                      have HB3q : Hid (Below R0 W2 w3q) := Lib.hid (by rw [← hw3q, ← hR0]; exact box_below' _ _)
                      have HRG : Hid (wG.heap.size + 2 ≤ R0) := Lib.hid (by rw [← hR0]; exact HG2.out)
                      have HSR0 : Hid (s' ≤ R0) := Lib.hid (by rw [← hR0]; exact HS2.out)
                      have hR3 : P2 < R0 := by have := HRG.out; omega
                      have HR9 := Lib.hid hR0
                      rw [hw3q, hR0]
                      clear hw3q hR0 c2 c3 HC2a
                      gi_loopw [111] (fun vi wr => ∃ i2 : Nat, i2 ≤ m ∧ vi = .int .i64 i2 ∧ Row8 wr R0 (padL (putsL (beforeI f k) (OF.take i2) PI p)) ∧ w3q.grownBy wr (some R0)) (fun vi _ => m - (intOf vi).toNat)
                      case atStart => exact ⟨0, by omega, rfl, by rw [List.take_zero, putsL_nil, ← HXP.out]; exact HRN.out, grown_refl _ _⟩
                      case round =>
                        obtain ⟨i2, hi2, rfl, hrow, hg⟩ := hrel
                        have HRW9 := Lib.hid hrow
                        have HBR : Hid (Below R0 W2 wr) := Lib.hid (HB3q.out.grown hg (by have := HR9.out; have := HB3q.out.size; omega) (fun q hq => by cases hq; exact Nat.le_refl _))
                        have HG9 := Lib.hid hg
                        clear hrow hg HRN
                        by_cases hil : i2 < m
                        · have hil'' : decide ((i2 : Int) < m) = true := decide_eq_true (by omega)
                          obtain ⟨bv, ov, cvx, ⟨av', hav, _, _, hal⟩, _, _, hvc⟩ := HV2.out.ints
                          simp only [Value.slice.injEq] at hav
                          obtain ⟨rfl, hav2, rfl⟩ := hav
                          have HPN3 := HPN2.1
                          obtain rfl : av = some ⟨bv, ov, none⟩ := by rcases hal with h | h; exact h; omega
                          obtain ⟨j, hj, hjs⟩ := HSVB.out i2 hil
                          have e1a := HTOG.out.cellAt hsvl.symm (j := i2) (by omega)
                          rw [hj] at e1a
                          have e1 := (HBR.out.cell (p := ⟨P1, i2, none⟩) (by show P1 < R0; omega)).trans ((HW2.out.cell (p := ⟨P1, i2, none⟩) (by show P1 < wG.heap.size; omega) (by show ¬ (P1 = D ∨ wG.heap.size ≤ P1); omega)).trans e1a)
                          have HE1R : Hid (bs < wr.heap.size ∧ wr.cell? ⟨bs, 0, none⟩ = some (.int .i64 (beforeI f k))) := Lib.hid (by
                            have h1 := HS3.out.below HBR.out (by have := HSPG.out.lt; omega)
                            exact ⟨h1.lt, h1.cell⟩)
                          have hq := hvc i2 (by omega)
                          have HE2R : Hid (bv < wr.heap.size ∧ wr.cell? ⟨bv, ov + i2, none⟩ = some (.int .i64 (nth PI i2))) := Lib.hid (by
                            have h1 := hq.1
                            exact ⟨Nat.lt_of_lt_of_le h1 (by have := HBR.out.size; have := HR9.out; omega), (HBR.out.cell (p := ⟨bv, ov + i2, none⟩) (by show bv < R0; have := HR9.out; omega)).trans hq.2⟩)
                          have HPIB : Hid (0 ≤ nth PI i2 ∧ nth PI i2 ≤ 8) := Lib.hid (HPN2.2 _ (nth_mem' (by omega)))
                          have HORR : Hid (R0 < wr.heap.size ∧ (∃ u, wr.cell? ⟨R0, j, none⟩ = some (.int .i64 u)) ∧ wr.frozen? ⟨R0, j, none⟩ = false) := Lib.hid ⟨HRW9.out.lt, ⟨_, HRW9.out.cell (j := j) (by omega)⟩, HRW9.out.free (j := j)⟩
                          have HSU : Hid ((padL (putsL (beforeI f k) (OF.take i2) PI p)).set j (beforeI f k + nth PI i2) = padL (putsL (beforeI f k) (OF.take (i2 + 1)) PI p)) := Lib.hid (by
                            rw [padL_set _ (by rw [putsL_len]; omega), putsL_succ HSVN.out (by omega) hj (by omega)])
                          have HST := Lib.hid (fun W (hb : Below wr.heap.size wr W) => (HRW9.out.ext hb).set j (beforeI f k + nth PI i2))
                          rw [HSU.out] at HST
                          clear hj hq hvc hal e1a hav2 HPN3
                          gi_wp2
                          obtain ⟨V, hV⟩ : ∃ V : List (Option Value), V = [some (.int .i64 (j : Int)), some (.int .i64 (beforeI f k)), some (.slice (some ⟨bv, ov, none⟩) m cv0), some (.int .i64 (i2 : Int)), some (.pointer (some ⟨bv, ov + i2, none⟩)), some (.int .i64 (nth PI i2)), some (.int .i64 (beforeI f k + nth PI i2)), some (.pointer (some ⟨R0, j, none⟩)), none] := ⟨_, rfl⟩
                          have HVV := Lib.hid hV
                          clear hV
                          refine wpIn_region_V [some 116, some 117, some 118, some 119, some 120, some 121, some 122, some 123, none] (fun L w' xs => ValsAt V L xs ∧ ((L 8 = true → L 1 = true ∧ L 5 = true) ∧ (L 8 = false → Below wr.heap.size wr w') ∧ (L 8 = true → ∃ w0, Below wr.heap.size wr w0 ∧ w' = w0.setCell ⟨R0, j, none⟩ (.int .i64 (beforeI f k + nth PI i2))))) (by kernel_rfl) (by kernel_rfl) (by rfl) (by rfl) (by rfl) ?_ ?_ ?_
                          focus
                            exact fun xs => ⟨ValsAt.none _ _, (fun h => by cases h), (fun _ => below_drewN (Below.refl _ wr) 1), (fun h => by cases h)⟩
                          focus
                            refine ⟨?_, ?_, ?_, ?_, ?_, ?_, ?_, ?_, ?_, trivial⟩
                            all_goals
                              intro L a' w' xs hi hd hf hJ K hK
                              obtain ⟨hv, h0, h1, h2⟩ := hJ
                              have HF := Lib.hid hf
                              have HVA := Lib.hid hv
                              have HLI := Lib.hid hi
                              clear hf hv hi
                            focus
                              clear hd
                              obtain ⟨ρ, hρ⟩ : ∃ ρ, a'.eval = ρ := ⟨_, rfl⟩
                              have hcst : ∀ v, ρ (.const v) = v := fun v => (congrFun hρ (.const v)).symm
                              have l22 : ρ (.tmp 22) = .int .i64 (j : Int) := (congrFun hρ (.tmp 22)).symm.trans (HF.out.lo 22 rfl)
                              rw [if_pos (by simp [Region.wanted])]
                              unfold Oper.wpIn
                              refine ⟨fun _ _ => trivial, ?_⟩
                              rw [Oper.semAt_plain (Fence.wide.inRound l) _ _ (by intro c hc; cases hc)]
                              rw [hρ]
                              clear hρ
                              go_simp
                              exact hK.out _ _ ⟨HVA.out.set (i := 0) (by rw [HVV.out]; rfl), (by simp only [upd_ne (L := L) (show (1 : Nat) ≠ 0 by decide), upd_ne (L := L) (show (5 : Nat) ≠ 0 by decide), upd_ne (L := L) (show (8 : Nat) ≠ 0 by decide)]; exact h0), (by simp only [upd_ne (L := L) (show (1 : Nat) ≠ 0 by decide), upd_ne (L := L) (show (5 : Nat) ≠ 0 by decide), upd_ne (L := L) (show (8 : Nat) ≠ 0 by decide)]; exact h1), (by simp only [upd_ne (L := L) (show (1 : Nat) ≠ 0 by decide), upd_ne (L := L) (show (5 : Nat) ≠ 0 by decide), upd_ne (L := L) (show (8 : Nat) ≠ 0 by decide)]; exact h2)⟩
                            focus
                              clear hd
                              obtain ⟨ρ, hρ⟩ : ∃ ρ, a'.eval = ρ := ⟨_, rfl⟩
                              have hcst : ∀ v, ρ (.const v) = v := fun v => (congrFun hρ (.const v)).symm
                              have l7 : ρ (.tmp 7) = .pointer (some ⟨bs, 0, none⟩) := (congrFun hρ (.tmp 7)).symm.trans (HF.out.lo 7 rfl)
                              have h8 : L 8 = false := by
                                cases h : L 8 with
                                | false => rfl
                                | true => exact absurd ((h0 h).1.symm.trans HLI.out) (by decide)
                              have hb := h1 h8
                              have e3 := (hb.cell (p := ⟨bs, 0, none⟩) HE1R.out.1).trans HE1R.out.2
                              rw [if_pos (by simp [Region.wanted])]
                              unfold Oper.wpIn
                              refine ⟨fun _ _ => trivial, ?_⟩
                              rw [Oper.semAt_plain (Fence.wide.inRound l) _ _ (by intro c hc; cases hc)]
                              rw [hρ]
                              clear hρ
                              go_simp
                              exact hK.out _ _ ⟨HVA.out.set (i := 1) (by rw [HVV.out]; rfl), (by simp only [upd_ne (L := L) (show (5 : Nat) ≠ 1 by decide), upd_ne (L := L) (show (8 : Nat) ≠ 1 by decide), upd_self]; exact fun h => absurd ((h0 h).1.symm.trans HLI.out) (by decide)), (by simp only [upd_ne (L := L) (show (5 : Nat) ≠ 1 by decide), upd_ne (L := L) (show (8 : Nat) ≠ 1 by decide), upd_self]; exact h1), (by simp only [upd_ne (L := L) (show (5 : Nat) ≠ 1 by decide), upd_ne (L := L) (show (8 : Nat) ≠ 1 by decide), upd_self]; exact h2)⟩
                            focus
                              clear hd
                              obtain ⟨ρ, hρ⟩ : ∃ ρ, a'.eval = ρ := ⟨_, rfl⟩
                              have hcst : ∀ v, ρ (.const v) = v := fun v => (congrFun hρ (.const v)).symm
                              have l19 : ρ (.tmp 19) = .slice (some ⟨bv, ov, none⟩) m cv0 := (congrFun hρ (.tmp 19)).symm.trans (HF.out.lo 19 rfl)
                              rw [if_pos (by simp [Region.wanted])]
                              unfold Oper.wpIn
                              refine ⟨fun _ _ => trivial, ?_⟩
                              rw [Oper.semAt_plain (Fence.wide.inRound l) _ _ (by intro c hc; cases hc)]
                              rw [hρ]
                              clear hρ
                              go_simp
                              exact hK.out _ _ ⟨HVA.out.set (i := 2) (by rw [HVV.out]; rfl), (by simp only [upd_ne (L := L) (show (1 : Nat) ≠ 2 by decide), upd_ne (L := L) (show (5 : Nat) ≠ 2 by decide), upd_ne (L := L) (show (8 : Nat) ≠ 2 by decide)]; exact h0), (by simp only [upd_ne (L := L) (show (1 : Nat) ≠ 2 by decide), upd_ne (L := L) (show (5 : Nat) ≠ 2 by decide), upd_ne (L := L) (show (8 : Nat) ≠ 2 by decide)]; exact h1), (by simp only [upd_ne (L := L) (show (1 : Nat) ≠ 2 by decide), upd_ne (L := L) (show (5 : Nat) ≠ 2 by decide), upd_ne (L := L) (show (8 : Nat) ≠ 2 by decide)]; exact h2)⟩
                            focus
                              clear hd
                              obtain ⟨ρ, hρ⟩ : ∃ ρ, a'.eval = ρ := ⟨_, rfl⟩
                              have hcst : ∀ v, ρ (.const v) = v := fun v => (congrFun hρ (.const v)).symm
                              have l21 : ρ (.tmp 21) = .int .i64 (i2 : Int) := (congrFun hρ (.tmp 21)).symm.trans (HF.out.lo 21 rfl)
                              rw [if_pos (by simp [Region.wanted])]
                              unfold Oper.wpIn
                              refine ⟨fun _ _ => trivial, ?_⟩
                              rw [Oper.semAt_plain (Fence.wide.inRound l) _ _ (by intro c hc; cases hc)]
                              rw [hρ]
                              clear hρ
                              go_simp
                              exact hK.out _ _ ⟨HVA.out.set (i := 3) (by rw [HVV.out]; rfl), (by simp only [upd_ne (L := L) (show (1 : Nat) ≠ 3 by decide), upd_ne (L := L) (show (5 : Nat) ≠ 3 by decide), upd_ne (L := L) (show (8 : Nat) ≠ 3 by decide)]; exact h0), (by simp only [upd_ne (L := L) (show (1 : Nat) ≠ 3 by decide), upd_ne (L := L) (show (5 : Nat) ≠ 3 by decide), upd_ne (L := L) (show (8 : Nat) ≠ 3 by decide)]; exact h1), (by simp only [upd_ne (L := L) (show (1 : Nat) ≠ 3 by decide), upd_ne (L := L) (show (5 : Nat) ≠ 3 by decide), upd_ne (L := L) (show (8 : Nat) ≠ 3 by decide)]; exact h2)⟩
                            focus
                              obtain ⟨d2, d3, _⟩ := hd
                              obtain ⟨ρ, hρ⟩ : ∃ ρ, a'.eval = ρ := ⟨_, rfl⟩
                              have hcst : ∀ v, ρ (.const v) = v := fun v => (congrFun hρ (.const v)).symm
                              have v2 : ρ (.tmp 118) = .slice (some ⟨bv, ov, none⟩) m cv0 := (congrFun hρ (.tmp 118)).symm.trans ((HF.out.ev 2 rfl d2).trans (HVA.out 2 _ (by rw [HVV.out]; rfl) d2))
                              have v3 : ρ (.tmp 119) = .int .i64 (i2 : Int) := (congrFun hρ (.tmp 119)).symm.trans ((HF.out.ev 3 rfl d3).trans (HVA.out 3 _ (by rw [HVV.out]; rfl) d3))
                              have e4 : (i2 : Int) < m := by omega
                              rw [if_pos (by simp [Region.wanted])]
                              unfold Oper.wpIn
                              refine ⟨fun _ _ => trivial, ?_⟩
                              rw [Oper.semAt_plain (Fence.wide.inRound l) _ _ (by intro c hc; cases hc)]
                              rw [hρ]
                              clear hρ
                              go_simp
                              exact hK.out _ _ ⟨HVA.out.set (i := 4) (by rw [HVV.out]; rfl), (by simp only [upd_ne (L := L) (show (1 : Nat) ≠ 4 by decide), upd_ne (L := L) (show (5 : Nat) ≠ 4 by decide), upd_ne (L := L) (show (8 : Nat) ≠ 4 by decide)]; exact h0), (by simp only [upd_ne (L := L) (show (1 : Nat) ≠ 4 by decide), upd_ne (L := L) (show (5 : Nat) ≠ 4 by decide), upd_ne (L := L) (show (8 : Nat) ≠ 4 by decide)]; exact h1), (by simp only [upd_ne (L := L) (show (1 : Nat) ≠ 4 by decide), upd_ne (L := L) (show (5 : Nat) ≠ 4 by decide), upd_ne (L := L) (show (8 : Nat) ≠ 4 by decide)]; exact h2)⟩
                            focus
                              obtain ⟨d4, _⟩ := hd
                              obtain ⟨ρ, hρ⟩ : ∃ ρ, a'.eval = ρ := ⟨_, rfl⟩
                              have hcst : ∀ v, ρ (.const v) = v := fun v => (congrFun hρ (.const v)).symm
                              have v4 : ρ (.tmp 120) = .pointer (some ⟨bv, ov + i2, none⟩) := (congrFun hρ (.tmp 120)).symm.trans ((HF.out.ev 4 rfl d4).trans (HVA.out 4 _ (by rw [HVV.out]; rfl) d4))
                              have h8 : L 8 = false := by
                                cases h : L 8 with
                                | false => rfl
                                | true => exact absurd ((h0 h).2.symm.trans HLI.out) (by decide)
                              have hb := h1 h8
                              have e3 := (hb.cell (p := ⟨bv, ov + i2, none⟩) HE2R.out.1).trans HE2R.out.2
                              rw [if_pos (by simp [Region.wanted])]
                              unfold Oper.wpIn
                              refine ⟨fun _ _ => trivial, ?_⟩
                              rw [Oper.semAt_plain (Fence.wide.inRound l) _ _ (by intro c hc; cases hc)]
                              rw [hρ]
                              clear hρ
                              go_simp
                              exact hK.out _ _ ⟨HVA.out.set (i := 5) (by rw [HVV.out]; rfl), (by simp only [upd_ne (L := L) (show (1 : Nat) ≠ 5 by decide), upd_ne (L := L) (show (8 : Nat) ≠ 5 by decide), upd_self]; exact fun h => absurd ((h0 h).2.symm.trans HLI.out) (by decide)), (by simp only [upd_ne (L := L) (show (1 : Nat) ≠ 5 by decide), upd_ne (L := L) (show (8 : Nat) ≠ 5 by decide), upd_self]; exact h1), (by simp only [upd_ne (L := L) (show (1 : Nat) ≠ 5 by decide), upd_ne (L := L) (show (8 : Nat) ≠ 5 by decide), upd_self]; exact h2)⟩
                            focus
                              obtain ⟨d1, d5, _⟩ := hd
                              obtain ⟨ρ, hρ⟩ : ∃ ρ, a'.eval = ρ := ⟨_, rfl⟩
                              have hcst : ∀ v, ρ (.const v) = v := fun v => (congrFun hρ (.const v)).symm
                              have v1 : ρ (.tmp 117) = .int .i64 (beforeI f k) := (congrFun hρ (.tmp 117)).symm.trans ((HF.out.ev 1 rfl d1).trans (HVA.out 1 _ (by rw [HVV.out]; rfl) d1))
                              have v5 : ρ (.tmp 121) = .int .i64 (nth PI i2) := (congrFun hρ (.tmp 121)).symm.trans ((HF.out.ev 5 rfl d5).trans (HVA.out 5 _ (by rw [HVV.out]; rfl) d5))
                              have e7 : IntKind.i64.wrap (beforeI f k + nth PI i2) = beforeI f k + nth PI i2 := by have h1 := HPIB.out; rw [IntWalk.i64_in _ (by omega)]
                              rw [if_pos (by simp [Region.wanted])]
                              unfold Oper.wpIn
                              refine ⟨fun _ _ => trivial, ?_⟩
                              rw [Oper.semAt_plain (Fence.wide.inRound l) _ _ (by intro c hc; cases hc)]
                              rw [hρ]
                              clear hρ
                              go_simp
                              exact hK.out _ _ ⟨HVA.out.set (i := 6) (by rw [HVV.out]; rfl), (by simp only [upd_ne (L := L) (show (1 : Nat) ≠ 6 by decide), upd_ne (L := L) (show (5 : Nat) ≠ 6 by decide), upd_ne (L := L) (show (8 : Nat) ≠ 6 by decide)]; exact h0), (by simp only [upd_ne (L := L) (show (1 : Nat) ≠ 6 by decide), upd_ne (L := L) (show (5 : Nat) ≠ 6 by decide), upd_ne (L := L) (show (8 : Nat) ≠ 6 by decide)]; exact h1), (by simp only [upd_ne (L := L) (show (1 : Nat) ≠ 6 by decide), upd_ne (L := L) (show (5 : Nat) ≠ 6 by decide), upd_ne (L := L) (show (8 : Nat) ≠ 6 by decide)]; exact h2)⟩
                            focus
                              obtain ⟨d0, _, d1, d2, d3, d4, d5, d6, _⟩ := hd
                              obtain ⟨ρ, hρ⟩ : ∃ ρ, a'.eval = ρ := ⟨_, rfl⟩
                              have hcst : ∀ v, ρ (.const v) = v := fun v => (congrFun hρ (.const v)).symm
                              have l20 : ρ (.tmp 20) = .pointer (some ⟨R0, 0, none⟩) := (congrFun hρ (.tmp 20)).symm.trans (HF.out.lo 20 rfl)
                              have v0 : ρ (.tmp 116) = .int .i64 (j : Int) := (congrFun hρ (.tmp 116)).symm.trans ((HF.out.ev 0 rfl d0).trans (HVA.out 0 _ (by rw [HVV.out]; rfl) d0))
                              have e3 : (j : Int) < 8 := by omega
                              rw [if_pos (by simp [Region.wanted])]
                              unfold Oper.wpIn
                              refine ⟨fun _ _ => trivial, ?_⟩
                              rw [Oper.semAt_plain (Fence.wide.inRound l) _ _ (by intro c hc; cases hc)]
                              rw [hρ]
                              clear hρ
                              go_simp
                              exact hK.out _ _ ⟨HVA.out.set (i := 7) (by rw [HVV.out]; rfl), (by simp only [upd_ne (L := L) (show (1 : Nat) ≠ 7 by decide), upd_ne (L := L) (show (5 : Nat) ≠ 7 by decide), upd_ne (L := L) (show (8 : Nat) ≠ 7 by decide)]; exact h0), (by simp only [upd_ne (L := L) (show (1 : Nat) ≠ 7 by decide), upd_ne (L := L) (show (5 : Nat) ≠ 7 by decide), upd_ne (L := L) (show (8 : Nat) ≠ 7 by decide)]; exact h1), (by simp only [upd_ne (L := L) (show (1 : Nat) ≠ 7 by decide), upd_ne (L := L) (show (5 : Nat) ≠ 7 by decide), upd_ne (L := L) (show (8 : Nat) ≠ 7 by decide)]; exact h2)⟩
                            focus
                              obtain ⟨d7, d6, d0, d1, d2, d3, d4, d5, _, _⟩ := hd
                              obtain ⟨ρ, hρ⟩ : ∃ ρ, a'.eval = ρ := ⟨_, rfl⟩
                              have hcst : ∀ v, ρ (.const v) = v := fun v => (congrFun hρ (.const v)).symm
                              have v7 : ρ (.tmp 123) = .pointer (some ⟨R0, j, none⟩) := (congrFun hρ (.tmp 123)).symm.trans ((HF.out.ev 7 rfl d7).trans (HVA.out 7 _ (by rw [HVV.out]; rfl) d7))
                              have v6 : ρ (.tmp 122) = .int .i64 (beforeI f k + nth PI i2) := (congrFun hρ (.tmp 122)).symm.trans ((HF.out.ev 6 rfl d6).trans (HVA.out 6 _ (by rw [HVV.out]; rfl) d6))
                              rw [if_pos (by simp [Region.wanted])]
                              unfold Oper.wpIn
                              refine ⟨fun _ _ => trivial, ?_⟩
                              rw [Oper.semAt_plain (Fence.wide.inRound l) _ _ (by intro c hc; cases hc)]
                              rw [hρ]
                              clear hρ
                              have hb := h1 HLI.out
                              obtain ⟨uu, huu⟩ := HORR.out.2.1
                              have e3 := (hb.cell (p := ⟨R0, j, none⟩) HORR.out.1).trans huu
                              have e4 := (hb.frozen (p := ⟨R0, j, none⟩) HORR.out.1).trans HORR.out.2.2
                              have HBB9 := Lib.hid hb
                              have HD1 := Lib.hid d1
                              have HD5 := Lib.hid d5
                              clear h0 h1 h2 hb
                              go_simp
                              exact hK.out undef _ ⟨HVA.out.free (i := 8) (by rw [HVV.out]; rfl) _, (by simp only [upd_ne (L := L) (show (1 : Nat) ≠ 8 by decide), upd_ne (L := L) (show (5 : Nat) ≠ 8 by decide), upd_self]; exact fun _ => ⟨HD1.out, HD5.out⟩), (by simp only [upd_ne (L := L) (show (1 : Nat) ≠ 8 by decide), upd_ne (L := L) (show (5 : Nat) ≠ 8 by decide), upd_self]; exact fun h => by cases h), (by simp only [upd_ne (L := L) (show (1 : Nat) ≠ 8 by decide), upd_ne (L := L) (show (5 : Nat) ≠ 8 by decide), upd_self]; exact fun _ => ⟨_, HBB9.out, rfl⟩)⟩
                          focus
                            intro L w' xs hL hJ
                            obtain ⟨hv, h0, h1, h2⟩ := hJ
                            have e0 : xs 0 = .int .i64 (j : Int) := hv 0 _ (by rw [HVV.out]; rfl) (hL 0 (by decide))
                            have e1 : xs 1 = .int .i64 (beforeI f k) := hv 1 _ (by rw [HVV.out]; rfl) (hL 1 (by decide))
                            have e2 : xs 2 = .slice (some ⟨bv, ov, none⟩) m cv0 := hv 2 _ (by rw [HVV.out]; rfl) (hL 2 (by decide))
                            have e3 : xs 3 = .int .i64 (i2 : Int) := hv 3 _ (by rw [HVV.out]; rfl) (hL 3 (by decide))
                            have e4 : xs 4 = .pointer (some ⟨bv, ov + i2, none⟩) := hv 4 _ (by rw [HVV.out]; rfl) (hL 4 (by decide))
                            have e5 : xs 5 = .int .i64 (nth PI i2) := hv 5 _ (by rw [HVV.out]; rfl) (hL 5 (by decide))
                            have e6 : xs 6 = .int .i64 (beforeI f k + nth PI i2) := hv 6 _ (by rw [HVV.out]; rfl) (hL 6 (by decide))
                            have e7 : xs 7 = .pointer (some ⟨R0, j, none⟩) := hv 7 _ (by rw [HVV.out]; rfl) (hL 7 (by decide))
                            simp only [putGo, Act.put, List.setIfInBounds_toArray, List.set_cons_zero, List.set_cons_succ, e0, e1, e2, e3, e4, e5, e6, e7]
                            clear hv e0 e1 e2 e3 e4 e5 e6 e7
                          obtain ⟨w0, hb0, hw0⟩ := h2 (hL 8 (by decide))
                          rw [hw0]
                          have HB0 := Lib.hid hb0
                          clear h0 h1 h2 hL hw0 hb0
                          gi_wp2
                          go_roundw
                          case rel => exact ⟨i2 + 1, by omega, by go_num, HST.out w0 HB0.out, grown_trans HG9.out (grown_trans (grown_below HB0.out (some R0)) (grown_setCell w0 ⟨R0, j, none⟩ _))⟩
                          case measure => simp [intOf]; omega
                        · have hil'' : decide ((i2 : Int) < m) = false := decide_eq_false (by omega)
                          have hie : i2 = m := by omega
                          have HRF2 : Hid (Row8 wr R0 (padL (putsL (beforeI f k) OF PI p))) := Lib.hid (by
                            have h1 := HRW9.out
                            rw [hie, ← hsvl, List.take_length] at h1
                            exact h1)
                          clear HRW9
                          have HPIM : Hid (PI ∈ permsOf (lotAt f.lots k)) := Lib.hid (by rw [← HPI2.out, rowAt_get hi]; exact List.getElem_mem hi)
                          have HQO2 : Hid (putsL (beforeI f k) OF PI p ∈ asgTo f (k + 1)) := Lib.hid (by
                            obtain ⟨π, hπ, he⟩ := List.mem_map.1 ((HTS.out _).2 ⟨PI, HPIM.out, rfl⟩)
                            exact mem_asgTo.2 ⟨p, HPM.out, π, hπ, he.symm⟩)
                          obtain ⟨y2, hy2⟩ := asg_vals h0 h8 HLK1.out (by have h1 := beforeI_mono (f := f) (show k + 1 ≤ f.lots.length by omega); have := H50.out; omega) _ HQO2.out
                          have HY2 := Lib.hid hy2
                          rw [← hy2] at HRF2
                          have HNr := Lib.hid (HN3.out.below HBR.out (by omega))
                          have HDr := Lib.hid (HD2.out.below HBR.out (by omega))
                          have c9 := HDr.out.cell
                          clear hy2
                          gi_wp2_with (first
                            | ((with_reducible refine wpListIn_load8 (.tmp 20) HRF2.out ?_ ?_ ?_ ?_); rotate_left; rfl; rfl; rfl)
                            | (gi_at_mapUpdate; refine wpListIn_update_k encK8 rfl (.tmp 125) (.tmp 126) (.const (.bool true)) rfl Try.underlying65 rfl HNr.out (x := y2) (v := .bool true) rfl rfl ?_; intro wU hmU hgU hzU; rw [kset_keys8] at hmU; have HMU := Lib.hid hmU; have HGU := Lib.hid hgU; clear hmU hgU hzU))
                          have hTU : Turned (fun q => q = D ∨ s' ≤ q) W2 wU := (Turned.mono (X := fun q => q = D ∨ s' ≤ q) ⟨HBR.out.os, HBR.out.tape, HBR.out.output, HBR.out.size, fun q hq hx => HBR.out.block q (by have := HR9.out; omega)⟩ (fun q _ h => h)).trans (Turned.of_grown HGU.out (fun q e => by cases e; exact .inl rfl))
                          refine ⟨hTU, addK N' y2, HMU.out, fun yy => ?_, HW2.out.trans (hTU.mono fun q hq h => ?_)⟩
                          · rw [mem_addK, HN2.out yy]
                            constructor
                            · rintro (rfl | h | ⟨j, hj, e⟩)
                              · exact .inr ⟨i, by omega, by rw [HPI2.out]; exact HY2.out⟩
                              · exact .inl h
                              · exact .inr ⟨j, by omega, e⟩
                            · rintro (h | ⟨j, hj, e⟩)
                              · exact .inr (.inl h)
                              · by_cases hji : j = i
                                · subst hji
                                  rw [HPI2.out] at e
                                  exact .inl (Subtype.ext (e.trans HY2.out.symm))
                                · exact .inr (.inr ⟨j, by omega, e⟩)
                          · rcases h with h | h
                            · exact .inl h
                            · exact .inr (by have := HRG.out; have := HSW.out; omega)

                    case hdone =>
                      rintro d s' W hd hds hsW ⟨N', h1, h2, h3⟩ hk
                      have HN1 := Lib.hid h1
                      have HMF : Hid (StMem wD w.heap.size D bm ri S (A ++ Bl) N' M rs2 W) := Lib.hid (HTMG.out.more h1 h3 HRI.out (by omega))
                      have HNF : Hid (∀ y : K8, y ∈ N' ↔ y ∈ N ∨ ∃ q ∈ outsL f k p, y.1 = padL q) := Lib.hid (fun y => by
                        rw [h2 y]
                        constructor
                        · rintro (h | ⟨j, hj, e⟩)
                          · exact .inl h
                          · exact .inr ⟨_, (HTS.out _).2 ⟨_, by rw [rowAt_get hj]; exact List.getElem_mem hj, rfl⟩, e⟩
                        · rintro (h | ⟨q, hq, e⟩)
                          · exact .inl h
                          · obtain ⟨π, hπ, rfl⟩ := (HTS.out _).1 hq
                            obtain ⟨j, hj, rfl⟩ := List.mem_iff_getElem.1 hπ
                            exact .inr ⟨j, hj, by rw [rowAt_get hj]; exact e⟩)
                      have HPF : Hid (StP f k ((A ++ Bl).map fun p => p.1) N' M) := Lib.hid (by
                        rw [HLM.out]
                        exact HPL.out.full HXP.out HPM.out HNF.out HTMET.out)
                      have HMKS : Hid (MarksOk w.heap.size (d :: rs2) W) := Lib.hid (HMF.out.marks.cons (by have := HTWG.out.size; omega) hk (fun h => by have := HTMG.out.marks.lt d h; omega))
                      have HWF : Hid (Below w.heap.size w W) := Lib.hid (HTWG.out.trans (h3.below HTWG.out.size (fun q hq h => by omega)))
                      have hln := h1.len (R := 3) Try.underlying65
                      rw [keys8_len] at hln
                      have c10 := HMF.out.cell.cell
                      have HND : Hid N'.Nodup := Lib.hid (keys8_nodup h1)
                      have HHL : Hid (N'.length ≤ (asgTo f (k + 1)).length) := Lib.hid (HPF.out.le HND.out)
                      clear h1 h2 h3 hk
                      by_cases hbig : 5040 < N'.length
                      · have hbig' : decide (5040 < (N'.length : Int)) = true := decide_eq_true (by omega)
                        have HE : Hid (allE f = 2) := Lib.hid (by rw [HE1.out, many_at (by have := HHL.out; omega) hlt]; rfl)
                        have HR : Hid (allR f = []) := Lib.hid (by rw [HRR.out, HE.out]; rfl)
                        go_wp2
                        refine leaves_marks (d :: rs2) _ HMKS.out fun W' ht => ?_
                        refine ⟨.tuple #[.slice none 0 0, .int .i64 2], by simp [results, Try.results15, go_sem], .slice none 0 0, by rw [HE.out], ?_, ?_⟩
                        · rw [HR.out]; exact OwnMat.nil _ _
                        · exact HWF.out.trans (ht.below HWF.out.size (fun q hq hm => by have := (HMKS.out.at_ q hm).1; omega))
                      · have hbig' : decide (5040 < (N'.length : Int)) = false := decide_eq_false (by omega)
                        have HFW : Hid (N'.length ≤ 5040) := Lib.hid (by omega)
                        go_wp2
                        refine ⟨?_, ?_⟩
                        focus
                          refine ⟨d :: rs2, ?_⟩
                          repeat apply Exists.intro
                          refine ⟨?_, rfl⟩
                          exact ⟨A ++ Bl, N', M, ⟨HMF.out.iter, HMF.out.next, HMF.out.met, HMF.out.cell, HMF.out.below, HMKS.out⟩, HPF.out, HFW.out⟩
                        rw [HMF.out.iter.count, HLFT.out, HHW.out]
                        exact Nat.lt_succ_self _




          · obtain rfl : k = f.lots.length := by omega
            have hlt' : decide ((f.lots.length : Int) < f.lots.length) = false := decide_eq_false (by omega)
            have HE : Hid (allE f = 0) := Lib.hid (by rw [HE1.out, HMY.out]; rfl)
            have HR : Hid (allR f = asgTo f f.lots.length) := Lib.hid (by rw [HRR.out, HE.out]; rfl)
            have HEX := Lib.hid (asg_vals h0 h8 HLT.out H50.out)
            have HSN : Hid S.Nodup := Lib.hid (keys8_nodup HKM.out)
            have HSL := Lib.hid (shows_len HSH.out HSN.out HEX.out)
            have hSne : keys8 S ≠ [] := fun e => by
              have h1 := asg_ne h0 f.lots.length HLT.out
              have h2 := HSL.out
              have h3 := congrArg List.length e
              rw [keys8_len] at h3
              exact h1 (List.length_eq_zero_iff.1 (by rw [← h2]; exact h3))
            have hSle : (keys8 S).length ≤ 100000 := by rw [keys8_len, HSL.out]; have := many_len HMY.out; omega
            have HCS := Lib.hid (csorted_any wB bm w.heap.size s (keys8 S) _ hn8 HKM.out HBX.out hSne hSle)
            clear hSne hSle
            go_wp2_with (go_at_call 47; refine HCS.out.mono ?_; rintro e w5' ⟨v5, rows, rfl, ho5, hp5, hs5, hb5⟩; have HO5 := Lib.hid ho5; have HP5 := Lib.hid hp5; have HS5 := Lib.hid hs5; have HBE := Lib.hid hb5; clear ho5 hp5 hs5 hb5)
            have HRW : Hid (rows = asgTo f f.lots.length) := Lib.hid (shows_sorted HTN.out HSH.out HSN.out HEX.out (by have h := HP5.out; unfold keys8 at h; rw [List.map_map] at h; exact h) (HS5.out.imp (fun h => by omega)))
            have hmk := HMK.out.ext HBE.out
            refine leaves_marks rs _ hmk fun W' ht => ?_
            refine ⟨.tuple #[v5, .int .i64 0], by simp [results, Try.results15, go_sem], v5, by rw [HE.out], ?_, ?_⟩
            · rw [HR.out, ← HRW.out]
              exact (HO5.out.mono HBB.out.size).turnedX ht hmk.notCells
            · exact (HBB.out.trans (HBE.out.mono HBB.out.size)).trans (ht.below (Nat.le_trans HBB.out.size HBE.out.size) (fun q hq hm => by have := (hmk.at_ q hm).1; omega))
  · have h1' : (checkE f != 0) = true := by simpa using h1
    have HE : Hid (allE f = checkE f) := Lib.hid (by rw [HER.out, if_pos h1])
    have HR : Hid (allR f = []) := Lib.hid (by rw [HRR.out, HE.out, if_neg h1])
    clear h1
    go_enter Try.func15, Try.ntmps15
    go_wp2_with (go_at_call 43; refine (HCK.out _).mono ?_; rintro e w5 ⟨rfl, hb5⟩; have HB5 := Lib.hid hb5; clear hb5)
    go_ret2
    exact ⟨.slice none 0 0, by rw [HE.out]; rfl, by rw [HR.out]; exact OwnMat.nil _ _, (box_below' w _).trans (HB5.out.mono (by simp))⟩

end Go.Proofs.Ythekefnocphcdaa

set_option linter.unusedVariables false

set_option linter.unusedSimpArgs false

namespace Go.Proofs.Ythekefnocphcdaa

open Go.RowKit

set_option maxHeartbeats 2000000 in
/-- slices.Equal -/
theorem equal_any (B B' : Nat) (w : World) (v v' : Value) (xs ys : List Int) (hv : IsInts B w v xs) (hv' : IsInts B' w v' ys) :
    Calls Try.prog 54 #[v, v'] w fun e w' => e = .returned (.bool (sameB xs ys)) ∧ Drew w w' := by
  obtain ⟨b, off, cap, ⟨a, rfl, hcap, hmax, ha⟩, hlen, hz, hc⟩ := hv
  obtain ⟨b', off', cap', ⟨a', rfl, hcap', hmax', ha'⟩, hlen', hz', hc'⟩ := hv'
  by_cases hl : xs.length = ys.length
  · have HL := Lib.hid hl
    have hne2 : ((xs.length : Int) != (ys.length : Int)) = false := by rw [hl]; simp
    clear hl
    go_enter Try.func54, Try.ntmps54
    go_wp2
    go_loopw [13] (fun i wr => ∃ k : Nat, k ≤ xs.length ∧ i = .int .i64 k ∧ sameB (xs.take k) (ys.take k) = true ∧ Drew w wr) (fun i _ => xs.length - (intOf i).toNat)
    case atStart => exact ⟨0, by omega, rfl, rfl, Drew.refl _⟩
    case round =>
      obtain ⟨k, hk, rfl, hno, hd⟩ := hrel
      have HN := Lib.hid hno
      have HD := Lib.hid hd
      clear hno hd
      by_cases hlt : k < xs.length
      · have hlt' : k < ys.length := by rw [← HL.out]; exact hlt
        obtain rfl : a = some ⟨b, off, none⟩ := by rcases ha with ha | ha; exact ha; omega
        obtain rfl : a' = some ⟨b', off', none⟩ := by rcases ha' with ha | ha; exact ha; omega
        have hcell := (HD.out.cell _).trans (hc k hlt).2
        have hcell' := (HD.out.cell _).trans (hc' k hlt').2
        clear ha ha' hc hc'
        go_wp2
        go_quiet (fail)
        by_cases he : nth xs k = nth ys k
        · have HT := Lib.hid (sameB_succ HN.out hlt hlt' he)
          have he' : (nth xs k != nth ys k) = false := by simpa using he
          clear he
          go_wp2
          go_roundw
          case rel => exact ⟨k + 1, by omega, by go_num, HT.out, HD.out.drewN _⟩
          case measure => simp [intOf]; omega
        · have HT := Lib.hid (sameB_not hlt hlt' he)
          have he' : (nth xs k != nth ys k) = true := by simpa using he
          clear he
          go_wp2
          go_ret
          exact ⟨by rw [HT.out]; rfl, HD.out.drewN _⟩
      · have HT := Lib.hid (sameB_all HN.out (by omega) (by have := HL.out; omega))
        clear hc hc'
        go_wp2
        go_ret
        exact ⟨by rw [HT.out]; rfl, HD.out⟩
  · have HT := Lib.hid (sameB_len hl)
    have hne2 : ((xs.length : Int) != (ys.length : Int)) = true := by simp; omega
    clear hl hc hc'
    go_enter Try.func54, Try.ntmps54
    go_wp2
    go_ret
    exact ⟨by rw [HT.out]; rfl, Drew.refl _⟩

/-- the closure of count.Possible -/
theorem poss1_any (B B' : Nat) (w : World) (v : Value) (xs ys : List Int) (c : Nat) (va : Value) (hv : IsInts B w v xs) (ha : IsInts B' w va ys) (hc : w.cell? ⟨c, 0, none⟩ = some va) :
    Calls Try.prog 53 #[v, .pointer (some ⟨c, 0, none⟩)] w fun e w' => e = .returned (.bool (sameB xs ys)) ∧ Drew w w' := by
  have HE := Lib.hid (equal_any B B' w v va xs ys hv ha)
  obtain ⟨a1, c1, rfl⟩ := hv.form
  obtain ⟨a2, c2, rfl⟩ := ha.form
  clear hv ha
  go_enter Try.func53, Try.ntmps53
  go_wp2_with (go_at_call 54; refine HE.out.mono ?_; rintro e w5 ⟨rfl, hd⟩; have HD := Lib.hid hd; clear hd)
  go_ret
  exact ⟨rfl, HD.out⟩

set_option maxHeartbeats 1000000 in
theorem indexposs_any (B B' : Nat) (w : World) (v va : Value) (rows : List (List Int)) (ys : List Int) (c : Nat) (hv : IsMat B w v rows) (hB : B ≤ w.heap.size) (ha : IsInts B' w va ys) (hc : w.cell? ⟨c, 0, none⟩ = some va) :
    Calls Try.prog 88 #[v, .func (.func 53) #[] #[.pointer (some ⟨c, 0, none⟩)]] w fun e w' => ∃ i : Int, e = .returned (.int .i64 i) ∧ decide (0 ≤ i) = anyRow rows (fun l => sameB l ys) rows.length ∧ Drew w w' := by
  obtain ⟨b, off, cp, ⟨a, rfl, hcap, hmax, haa⟩, hlen, hcc⟩ := hv
  have HC := Lib.hid hcc
  have HCC := Lib.hid hc
  have HA := Lib.hid ha
  have eg : ∀ args W, (callFunc 53 args).run Try.prog W = .ok (.enter 53 args) W := fun args W => by simp [go_sem]
  clear hcc hc ha
  go_enter Try.func88, Try.ntmps88
  go_wp2
  go_loopw [8] (fun i wr => ∃ k : Nat, k ≤ rows.length ∧ i = .int .i64 k ∧ anyRow rows (fun l => sameB l ys) k = false ∧ Drew w wr) (fun i _ => rows.length - (intOf i).toNat)
  case atStart => exact ⟨0, by omega, rfl, rfl, Drew.refl _⟩
  case round =>
    obtain ⟨k, hk, rfl, h1, hbr⟩ := hrel
    have H1 := Lib.hid h1
    have HBR := Lib.hid hbr
    clear h1 hbr
    by_cases hlt : k < rows.length
    · obtain rfl : a = some ⟨b, off, none⟩ := by rcases haa with ha | ha; exact ha; omega
      obtain ⟨r, hcr, hr⟩ := HC.out k hlt
      have hcell := (HBR.out.cell _).trans hcr.2
      have HPC := Lib.hid (poss1_any B B' wr r (rowAt rows k) ys c va (hr.drew HBR.out) (HA.out.drew HBR.out) ((HBR.out.cell _).trans HCC.out))
      have HS : Hid (anyRow rows (fun l => sameB l ys) (k + 1) = (anyRow rows (fun l => sameB l ys) k || sameB (rowAt rows k) ys)) := Lib.hid rfl
      obtain ⟨a1, c1, rfl⟩ := hr.form
      clear hcr hr
      cases hp : sameB (rowAt rows k) ys
      · have HP := Lib.hid hp
        clear hp
        go_wp2_with (go_at_call 53; refine HPC.out.mono ?_; rintro e w7 ⟨rfl, hb7⟩; have HB7 := Lib.hid hb7; clear hb7; rw [HP.out])
        go_roundw
        case rel => exact ⟨k + 1, by omega, by go_num, by rw [HS.out, H1.out, HP.out]; rfl, HBR.out.trans HB7.out⟩
        case measure => simp [intOf]; omega
      · have HP := Lib.hid hp
        clear hp
        go_wp2_with (go_at_call 53; refine HPC.out.mono ?_; rintro e w7 ⟨rfl, hb7⟩; have HB7 := Lib.hid hb7; clear hb7; rw [HP.out])
        go_ret
        exact ⟨k, rfl, by rw [anyRow_of (k := k + 1) (m := rows.length) (by rw [HS.out, HP.out]; simp) (by omega)]; simp, HBR.out.trans HB7.out⟩
    · obtain rfl : k = rows.length := by omega
      go_wp2
      go_ret
      exact ⟨-1, rfl, by rw [H1.out]; rfl, HBR.out⟩

theorem containsposs_any (B B' : Nat) (w : World) (v va : Value) (rows : List (List Int)) (ys : List Int) (c : Nat) (hv : IsMat B w v rows) (hB : B ≤ w.heap.size) (ha : IsInts B' w va ys) (hc : w.cell? ⟨c, 0, none⟩ = some va) :
    Calls Try.prog 52 #[v, .func (.func 53) #[] #[.pointer (some ⟨c, 0, none⟩)]] w fun e w' => e = .returned (.bool (anyRow rows (fun l => sameB l ys) rows.length)) ∧ Drew w w' := by
  have HC := Lib.hid (indexposs_any B B' w v va rows ys c hv hB ha hc)
  clear hv hc ha
  go_enter Try.func52, Try.ntmps52
  go_wp2_with (go_at_call 88; refine HC.out.mono ?_; rintro e w5 ⟨i, rfl, hi, hb5⟩; have HI := Lib.hid hi; have HB5 := Lib.hid hb5; clear hi hb5)
  go_ret
  exact ⟨by rw [← HI.out]; rfl, HB5.out⟩

theorem anyRow_same {rows : List (List Int)} {ys : List Int} : ∀ {k : Nat}, k ≤ rows.length → anyRow rows (fun l => sameB l ys) k = decide (ys ∈ rows.take k)
  | 0, _ => by simp [anyRow]
  | k + 1, h => by
    have ih := anyRow_same (rows := rows) (ys := ys) (k := k) (by omega)
    rw [anyRow, ih, List.take_succ_eq_append_getElem (by omega), rowAt_get (by omega)]
    unfold sameB
    rw [Bool.eq_iff_iff]
    simp only [Bool.or_eq_true, decide_eq_true_eq, List.mem_append, List.mem_singleton]
    exact or_congr Iff.rfl eq_comm

def few27 (f : Flow) : Bool := few25 f && (decide (f.lots.length ≤ 12) && (decide (f.senders ≤ 5) || decide (8 < f.senders)))

theorem few27_any (B : Nat) (w : World) (vs vl : Value) (f : Flow) (hf : IsFlow B w vs vl f) (hB : B ≤ w.heap.size) :
    Calls Try.prog 14 #[.agg #[vs, vl]] w fun e w' => e = .returned (.bool (few27 f)) ∧ Below w.heap.size w w' := by
  have HF := Lib.hid hf
  obtain ⟨rfl, ⟨hs1, hs2⟩, hl⟩ := hf
  obtain ⟨b, off, cap, ⟨a, rfl, hcap, hmax, ha⟩, hlen, hc⟩ := hl
  clear hc ha
  have HC := Lib.hid (fun o => few25_any B (w.alloc o) _ _ f (HF.out.below (box_below hB o) (Nat.le_refl _)) (by simp; omega))
  cases h1 : few25 f
  · have HT : Hid (few27 f = false) := Lib.hid (by unfold few27; rw [h1]; rfl)
    have H1 := Lib.hid h1
    clear h1
    go_enter Try.func14, Try.ntmps14
    go_wp2_with (go_at_call 42; refine (HC.out _).mono ?_; rintro e w5 ⟨rfl, hb5⟩; rw [H1.out]; have HB5 := Lib.hid hb5; clear hb5)
    go_ret
    exact ⟨by rw [HT.out]; rfl, (box_below (Nat.le_refl _) _).trans (HB5.out.mono (by simp))⟩
  · have H1 := Lib.hid h1
    by_cases h0 : f.lots.length ≤ 12
    · have HT : Hid (few27 f = (decide (f.senders ≤ 5) || decide (8 < f.senders))) := Lib.hid (by unfold few27; rw [h1, decide_eq_true h0]; rfl)
      have h0' : decide ((f.lots.length : Int) ≤ 12) = true := decide_eq_true (by omega)
      clear h1
      by_cases h2 : f.senders ≤ 5
      · have h2' : decide (f.senders ≤ 5) = true := decide_eq_true h2
        have HU : Hid (few27 f = true) := Lib.hid (by rw [HT.out, h2']; rfl)
        go_enter Try.func14, Try.ntmps14
        go_wp2_with (go_at_call 42; refine (HC.out _).mono ?_; rintro e w5 ⟨rfl, hb5⟩; rw [H1.out]; have HB5 := Lib.hid hb5; have HX := Lib.hid ((Box.new w _ _).ext hb5); obtain ⟨z5, r5⟩ := HX.out; clear hb5)
        go_ret
        exact ⟨by rw [HU.out]; rfl, (box_below (Nat.le_refl _) _).trans (HB5.out.mono (by simp))⟩
      · have h2' : decide (f.senders ≤ 5) = false := decide_eq_false h2
        have HU : Hid (few27 f = decide (8 < f.senders)) := Lib.hid (by rw [HT.out, h2']; rfl)
        go_enter Try.func14, Try.ntmps14
        go_wp2_with (go_at_call 42; refine (HC.out _).mono ?_; rintro e w5 ⟨rfl, hb5⟩; rw [H1.out]; have HB5 := Lib.hid hb5; have HX := Lib.hid ((Box.new w _ _).ext hb5); obtain ⟨z5, r5⟩ := HX.out; clear hb5)
        go_ret
        exact ⟨by rw [HU.out]; rfl, (box_below (Nat.le_refl _) _).trans (HB5.out.mono (by simp))⟩
    · have HT : Hid (few27 f = false) := Lib.hid (by unfold few27; rw [decide_eq_false h0]; simp)
      have h0' : decide ((f.lots.length : Int) ≤ 12) = false := decide_eq_false (by omega)
      clear h1
      go_enter Try.func14, Try.ntmps14
      go_wp2_with (go_at_call 42; refine (HC.out _).mono ?_; rintro e w5 ⟨rfl, hb5⟩; rw [H1.out]; have HB5 := Lib.hid hb5; have HX := Lib.hid ((Box.new w _ _).ext hb5); obtain ⟨z5, r5⟩ := HX.out; clear hb5)
      go_ret
      exact ⟨by rw [HT.out]; rfl, (box_below (Nat.le_refl _) _).trans (HB5.out.mono (by simp))⟩

end Go.Proofs.Ythekefnocphcdaa

set_option linter.unusedVariables false

set_option linter.unusedSimpArgs false

namespace Go.Proofs.Ythekefnocphcdaa

open Go.RowKit

theorem ccount_any (B : Nat) (w : World) (vs vl : Value) (f : Flow) (hf : IsFlow B w vs vl f) (hB : B ≤ w.heap.size) :
    Calls Try.prog 17 #[.agg #[vs, vl]] w fun e w' => e = .returned (.tuple #[.int .i64 (countR f), .int .i64 (allE f)]) ∧ Below w.heap.size w w' := by
  have HF := Lib.hid hf
  obtain ⟨rfl, ⟨hs1, hs2⟩, hl⟩ := hf
  obtain ⟨b, off, cap, ⟨a, rfl, hcap, hmax, ha⟩, hlen, hc⟩ := hl
  clear hc ha
  have HC := Lib.hid (fun o => all27_any B (w.alloc o) _ _ f (HF.out.below (box_below hB o) (Nat.le_refl _)) (by simp; omega))
  have HR : Hid (countR f = ((allR f).length : Int)) := Lib.hid rfl
  obtain ⟨ee, hee⟩ : ∃ x, allE f = x := ⟨_, rfl⟩
  rw [hee] at HC ⊢
  clear hee
  go_enter Try.func17, Try.ntmps17
  go_wp2_with (go_at_call 15; refine (HC.out _).mono ?_; rintro e w5 ⟨v5, rfl, ho5, hb5⟩; obtain ⟨a5, c5, rfl, _⟩ := ho5.form; have HB5 := Lib.hid hb5; clear ho5 hb5)
  go_ret2
  exact ⟨by rw [HR.out]; rfl, (box_below' w _).trans (HB5.out.mono (by simp))⟩

theorem cposs_any (B : Nat) (w : World) (vs vl va : Value) (f : Flow) (xs : List Int) (hf : IsFlow B w vs vl f) (hx : IsInts B w va xs) (hB : B ≤ w.heap.size) :
    Calls Try.prog 20 #[.agg #[vs, vl], va] w fun e w' => e = .returned (.tuple #[.bool (possB f xs), .int .i64 (allE f)]) ∧ Below w.heap.size w w' := by
  have HF := Lib.hid hf
  have HX := Lib.hid hx
  obtain ⟨ax, cx, rfl⟩ := hx.form
  obtain ⟨rfl, ⟨hs1, hs2⟩, hl⟩ := hf
  obtain ⟨b, off, cap, ⟨a, rfl, hcap, hmax, ha⟩, hlen, hc⟩ := hl
  clear hc ha hx
  have HC := Lib.hid (fun o o' => all27_any B ((w.alloc o).alloc o') _ _ f (HF.out.below ((box_below hB o).trans (box_below (by simp; omega) o')) (Nat.le_refl _)) (by simp; omega))
  have HP : Hid (possB f xs = (decide (allE f = 0) && decide (xs ∈ asgL f))) := Lib.hid rfl
  have HR : Hid (allR f = if allE f = 0 then asgL f else []) := Lib.hid rfl
  have hmf := @run_makeFunc_any Try.prog
  obtain ⟨ee, hee⟩ : ∃ x, allE f = x := ⟨_, rfl⟩
  rw [hee] at HC HP HR ⊢
  clear hee
  by_cases h1 : ee = 0
  · have h1' : (ee != 0) = false := by simpa using h1
    have HR1 : Hid (allR f = asgL f) := Lib.hid (by rw [HR.out, if_pos h1])
    have HP1 : Hid (possB f xs = decide (xs ∈ asgL f)) := Lib.hid (by rw [HP.out, decide_eq_true h1]; rfl)
    have H1 := Lib.hid h1
    clear h1
    go_enter Try.func20, Try.ntmps20
    go_wp2_with (first
      | (go_at_call 15; refine (HC.out _ _).mono ?_; rintro e w5 ⟨v5, rfl, ho5, hb5⟩; rw [HR1.out] at ho5; obtain ⟨a5, c5, rfl, _⟩ := ho5.form; have HO5 := Lib.hid ho5; have HB5 := Lib.hid hb5; have HA5 : Hid (w5.cell? ⟨w.heap.size + 1, 0, none⟩ = some (.slice ax xs.length cx)) := Lib.hid (by have h1 := (Box.new (w.alloc (.cells #[.int .i64 f.senders, .slice a f.lots.length cap] 24)) #[.slice ax xs.length cx] 34).ext hb5; have := h1.2 0; simpa using this); clear ho5 hb5)
      | (go_at_call 52; refine (containsposs_any w5.heap.size B w5 _ (.slice ax xs.length cx) (asgL f) xs (w.heap.size + 1) HO5.out.isMat (Nat.le_refl _) (HX.out.below ((((Below.refl B w).alloc hB _).alloc (by simp; omega) _).trans (HB5.out.mono (by simp; omega))) (Nat.le_refl _)) HA5.out).mono ?_; rintro e w6 ⟨rfl, hd6⟩; have HD6 := Lib.hid hd6; clear hd6))
    go_ret2
    refine ⟨?_, (((Below.refl _ w).alloc (Nat.le_refl _) _).alloc (by simp) _).trans ((HB5.out.mono (by simp; omega)).trans (HD6.out.below _))⟩
    rw [HP1.out, ← H1.out, anyRow_same (Nat.le_refl _), List.take_length]
    rfl
  · have h1' : (ee != 0) = true := by simpa using h1
    have HP1 : Hid (possB f xs = false) := Lib.hid (by rw [HP.out, decide_eq_false h1]; rfl)
    clear h1
    go_enter Try.func20, Try.ntmps20
    go_wp2_with (go_at_call 15; refine (HC.out _ _).mono ?_; rintro e w5 ⟨v5, rfl, ho5, hb5⟩; obtain ⟨a5, c5, rfl, _⟩ := ho5.form; have HB5 := Lib.hid hb5; clear ho5 hb5)
    go_ret2
    exact ⟨by rw [HP1.out]; rfl, (((Below.refl _ w).alloc (Nat.le_refl _) _).alloc (by simp) _).trans (HB5.out.mono (by simp; omega))⟩

end Go.Proofs.Ythekefnocphcdaa
