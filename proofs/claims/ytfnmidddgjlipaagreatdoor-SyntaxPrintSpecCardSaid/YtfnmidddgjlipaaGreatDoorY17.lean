/-
  Layer 17: the walk of the writer's order (printed by tools/geny17.py).
-/
import Derived.Test.YtfnmidddgjlipaaGreatDoorY16
set_option linter.unusedVariables false
set_option linter.unusedSimpArgs false
namespace Go.Proofs.YtfnmidddgjlipaaGreatDoor
open Go.RowKit

def StepP (S : Nat) (W : World) (v : Value) (ts : List Tok) (e : Ending) (w' : World) : Prop :=
  e = .returned (.tuple #[]) ∧ ∃ v', Wri S w' v' ts ∧ Fr S v.ownBlock W w' ∧ OwnOf v.ownBlock v'.ownBlock W.heap.size
/-- put at items that were just laid -/
theorem put_step (S : Nat) (W : World) (v : Value) (T : List Tok) (its : List Item) (arr : Array Value) (ty : TypeId) (n : Nat) (hw : Wri S W v T) (harr : arr = (its.map itV).toArray) (hok : ∀ i ∈ its, okI i) (hn : n = its.length) (hlen : T.length + its.length ≤ 1000000000) :
    Calls Tryz.prog 48 #[.pointer (some ⟨S, 0, none⟩), .slice (some ⟨W.heap.size, 0, none⟩) n n] (W.alloc (.cells arr ty)) (StepP S W v (T ++ its.map itT)) := by
  subst harr
  have hlt := hw.1.lt
  refine (put_any S _ v T W.heap.size n its ⟨hw.1.alloc _, hw.2.alloc _⟩ (CellsN.new _ _ _) (by omega) (fun e => by have := (hw.2.lt _ e).2; omega) hok hn hlen).mono ?_
  rintro e w' ⟨h1, v', h2, h3, h4⟩
  refine ⟨h1, v', h2, Fr.trans ((Fr.refl S v.ownBlock W).grown (row := none) (grown_below (box_below' W _) _) (fun q e => by cases e)) h3 (.inl rfl), ?_⟩
  rcases h4 with h4 | ⟨k, h4, h5⟩
  · exact .inl h4
  · exact .inr ⟨k, h4, by simp at h5; omega⟩
theorem StepP.next {S : Nat} {W W1 w' : World} {v v1 : Value} {ts : List Tok} {e : Ending} (hf : Fr S v.ownBlock W W1) (ho : OwnOf v.ownBlock v1.ownBlock W.heap.size) (h : StepP S W1 v1 ts e w') : StepP S W v ts e w' := by
  obtain ⟨h1, v', h2, h3, h4⟩ := h
  exact ⟨h1, v', h2, hf.trans h3 ho, ho.trans h4 hf.size⟩
def hd14 (x : WishD) : List Tok := [nmT wLetter, nmT x.name, nmT wFrom, nmT x.frm, nmT wTo, nmT x.to, nmT wClass, nmT x.cls, nmT wAfter, nuT x.after, nmT wBy, nuT x.by_, nmT wCrowd, nuT x.crowd]
def it14 (x : WishD) : List Item := [.word wLetter, .name x.name, .word wFrom, .name x.frm, .word wTo, .name x.to, .word wClass, .name x.cls, .word wAfter, .num x.after, .word wBy, .num x.by_, .word wCrowd, .num x.crowd]
theorem it14_tok (x : WishD) : (it14 x).map itT = hd14 x := rfl
theorem ordT_eq (x : WishD) : ordT x = hd14 x ++ agT x.against ++ [nmT wPay, nuT x.pay] ++ (if x.back then [nmT wBack] else []) ++ elT x.els ++ [sgT sSemi] := rfl
theorem agT_zero (l : List Str) : agT (l.take 0) = [] := by simp [agT]
theorem agT_one {l : List Str} (h : 0 < l.length) : agT (l.take (0 + 1)) = [nmT wAgainst, nmT (strAt l 0)] := by
  cases l with
  | nil => simp at h
  | cons a r => simp [agT, strAt]
theorem agT_succ {l : List Str} {k : Nat} (h0 : 0 < k) (h : k < l.length) : agT (l.take (k + 1)) = agT (l.take k) ++ [sgT sComma, nmT (strAt l k)] := by
  cases l with
  | nil => simp at h
  | cons a r =>
    obtain ⟨m, rfl⟩ : ∃ m, k = m + 1 := ⟨k - 1, by omega⟩
    have hm : m < r.length := by simpa using h
    simp only [List.take_succ_cons, agT, List.cons_append]
    rw [List.take_succ_eq_append_getElem hm, List.flatMap_append]
    have : strAt (a :: r) (m + 1) = r[m] := by
      rw [strAt_get h]; rfl
    rw [this]
    simp
theorem agT_len (l : List Str) : (agT l).length ≤ 2 * l.length := by
  cases l with
  | nil => simp [agT]
  | cons a r =>
    have : (r.flatMap (fun x => [sgT sComma, nmT x])).length = 2 * r.length := by
      induction r with
      | nil => rfl
      | cons b s ih => simp only [List.flatMap_cons, List.length_append, List.length_cons, List.length_nil, ih]; omega
    simp only [agT, List.length_cons, this]
    omega

set_option maxHeartbeats 8000000 in
set_option maxRecDepth 100000 in
theorem order_any (S B : Nat) (w : World) (v : Value) (ts : List Tok) (va : Value) (x : WishD) (hw : Wri S w v ts) (hB : B ≤ S) (hv : IsStrs B w va x.against) (hok : okW x) (hag : x.against.length ≤ 1000000) (hlen : ts.length ≤ 900000000) :
    Calls Tryz.prog 18 #[.pointer (some ⟨S, 0, none⟩), wishV va x] w (PutPost S w v (ts ++ ordT x)) := by
  obtain ⟨av, cv, e1, h11, h12, h13⟩ := hv.form
  subst e1
  have hlt := hw.1.lt
  obtain ⟨b3, hb3⟩ : ∃ b, w.heap.size = b := ⟨_, rfl⟩
  obtain ⟨W1, hW1⟩ : ∃ W, w.alloc (.cells #[strV x.name, strV x.frm, strV x.to, strV x.cls, .int .i64 x.after, .int .i64 x.by_, .int .i64 x.crowd, .int .i64 x.pay, .slice av x.against.length cv, .bool x.back, .int .i64 x.els] 34) = W := ⟨_, rfl⟩
  have HB1 : Hid (Below w.heap.size w W1) := Lib.hid (by rw [← hW1]; exact box_below' w _)
  have HX1 : Hid (CellsN W1 b3 #[strV x.name, strV x.frm, strV x.to, strV x.cls, .int .i64 x.after, .int .i64 x.by_, .int .i64 x.crowd, .int .i64 x.pay, .slice av x.against.length cv, .bool x.back, .int .i64 x.els]) := Lib.hid (by rw [← hW1, ← hb3]; exact CellsN.new _ _ _)
  have HWR1 : Hid (Wri S W1 v ts) := Lib.hid (by rw [← hW1]; exact ⟨hw.1.alloc _, hw.2.alloc _⟩)
  have HIS : Hid (IsStrs B W1 (.slice av x.against.length cv) x.against) := Lib.hid (IsRecs.below strK hv (HB1.out.mono (by omega)) (Nat.le_refl B))
  have HOWN : Hid (∀ q, v.ownBlock = some q → S + 1 ≤ q ∧ q < b3) := Lib.hid (fun q e => by have := hw.2.lt q e; omega)
  have HFR0 : Hid (Fr S v.ownBlock w W1) := Lib.hid ((Fr.refl S v.ownBlock w).grown (row := none) (grown_below HB1.out _) (fun q e => by cases e))
  have HSZ1 : Hid (w.heap.size ≤ W1.heap.size) := Lib.hid HB1.out.size
  have HOK := Lib.hid hok
  have HB3 := Lib.hid hb3
  have HW1 := Lib.hid hW1
  have hb3S : b3 ≠ S := by omega
  have hbB : b3 ≥ B := by omega
  have HFX : Hid (∀ W, Fr S v.ownBlock W1 W → CellsN W b3 #[strV x.name, strV x.frm, strV x.to, strV x.cls, .int .i64 x.after, .int .i64 x.by_, .int .i64 x.crowd, .int .i64 x.pay, .slice av x.against.length cv, .bool x.back, .int .i64 x.els] ∧ IsStrs B W (.slice av x.against.length cv) x.against) := Lib.hid fun W hf => by
    refine ⟨HX1.out.fr hf hb3S (fun e => by have := (HOWN.out _ e).2; omega), IsRecs.below strK HIS.out (hf.below hB (fun q e => by have := (HOWN.out q e).1; omega) (by have := HX1.out.lt; omega)) (Nat.le_refl B)⟩
  clear hw hv hok hW1
  unfold wishV wishC
  go_enter Tryz.func18, Tryz.ntmps18
  go_upto_region 1 with fail
  rw [HW1.out]
  try rw [hb3]
  clear hb3
  obtain ⟨o0, o1, o2, o3, o4, o5, o6, o7, o8⟩ := HOK.out
  have HI14 : Hid (∀ i ∈ it14 x, okI i) := Lib.hid (by
    intro i hi
    simp only [it14, List.mem_cons, List.not_mem_nil, or_false] at hi
    rcases hi with rfl | rfl | rfl | rfl | rfl | rfl | rfl | rfl | rfl | rfl | rfl | rfl | rfl | rfl
    all_goals first | exact o0 | exact o1 | exact o2 | exact o3 | exact o4 | exact o5 | exact o6 | (unfold okI wLetter; decide) | (unfold okI wFrom; decide) | (unfold okI wTo; decide) | (unfold okI wClass; decide) | (unfold okI wAfter; decide) | (unfold okI wBy; decide) | (unfold okI wCrowd; decide))
  have HO7 := Lib.hid o7
  clear o0 o1 o2 o3 o4 o5 o6 o7 o8
  have x0 := HX1.out.cell 0
  have x1 := HX1.out.cell 1
  have x2 := HX1.out.cell 2
  have x3 := HX1.out.cell 3
  have x4 := HX1.out.cell 4
  have x5 := HX1.out.cell 5
  have x6 := HX1.out.cell 6
  simp at x0 x1 x2 x3 x4 x5 x6
  go_wp2_with fail
  refine (put_step S W1 v ts (it14 x) _ _ 14 HWR1.out rfl HI14.out rfl (by simp [it14]; omega)).mono ?_
  rintro e W2 ⟨rfl, v2, hw2, hf2, hof2⟩
  rw [it14_tok] at hw2
  have HW2 := Lib.hid hw2
  have HF2 := Lib.hid hf2
  have HO2 := Lib.hid hof2
  obtain ⟨hx, _⟩ := HFX.out W2 hf2
  have x8 := hx.cell 8
  simp at x8
  clear hw2 hf2 hof2 hx x0 x1 x2 x3 x4 x5 x6
  go_wp2_with fail
  clear x8
  go_loopw [40] (fun kv wr => ∃ (k : Nat) (v' : Value), k ≤ x.against.length ∧ kv = .int .i64 k ∧ Wri S wr v' (ts ++ hd14 x ++ agT (x.against.take k)) ∧ Fr S v.ownBlock W1 wr ∧ OwnOf v.ownBlock v'.ownBlock W1.heap.size) (fun kv _ => x.against.length - (intOf kv).toNat)
  case atStart => exact ⟨0, v2, by omega, rfl, by rw [agT_zero, List.append_nil]; exact HW2.out, HF2.out, HO2.out⟩
  case round =>
    obtain ⟨k, v', hk, rfl, hwr, hf, ho⟩ := hrel
    have HWK := Lib.hid hwr
    have HFK := Lib.hid hf
    have HOK2 := Lib.hid ho
    obtain ⟨hx, hst⟩ := HFX.out wr hf
    clear hwr hf ho
    have hT : (ts ++ hd14 x ++ agT (x.against.take k)).length ≤ 902000100 := by
      have := agT_len (x.against.take k)
      simp only [List.length_append, List.length_take] at this ⊢
      simp only [hd14, List.length_cons, List.length_nil]
      omega
    obtain ⟨T, hTe⟩ : ∃ T, ts ++ hd14 x ++ agT (x.against.take k) = T := ⟨_, rfl⟩
    rw [hTe] at HWK hT
    have HTE := Lib.hid hTe
    clear hTe
    by_cases hkl : k < x.against.length
    focus
      obtain ⟨bs, os, rfl, bbs, s0, sl⟩ := IsStrs.cell hst hkl
      obtain ⟨s, hs⟩ : ∃ s, strAt x.against k = s := ⟨_, rfl⟩
      rw [hs] at s0 sl
      have HS := Lib.hid hs
      have HSL := Lib.hid sl
      clear hx hst hs bbs sl
      by_cases hk0 : k = 0
      · subst hk0
        rw [Nat.add_zero] at s0
        go_wp2_with fail
        refine (put_step S wr v' T [.word wAgainst, .name s] _ _ 2 HWK.out rfl (fun i hi => by
          rcases List.mem_cons.1 hi with rfl | hi
          · unfold okI wAgainst; decide
          · obtain rfl := List.mem_singleton.1 hi; exact HSL.out) rfl (by simp; omega)).mono ?_
        rintro e w7 h7
        obtain ⟨rfl, v7, hw7, hf7, ho7⟩ := StepP.next HFK.out HOK2.out h7
        have HW7 := Lib.hid hw7
        have HF7 := Lib.hid hf7
        have HO7' := Lib.hid ho7
        clear h7 hw7 hf7 ho7 s0
        go_wp2_with fail
        go_roundw
        case rel =>
          refine ⟨0 + 1, v7, by omega, by go_num, ?_, HF7.out, HO7'.out⟩
          have h := HW7.out
          rw [← HTE.out, agT_zero, List.append_nil] at h
          rw [agT_one hkl, HS.out]
          exact h
        case measure => simp [intOf]; omega
      · have hkb : ((k : Int) == 0) = false := by
          have : ¬ (k : Int) = 0 := by omega
          simpa using this
        go_wp2_with fail
        refine (put_step S wr v' T [.sign sComma, .name s] _ _ 2 HWK.out rfl (fun i hi => by
          rcases List.mem_cons.1 hi with rfl | hi
          · unfold okI sComma; decide
          · obtain rfl := List.mem_singleton.1 hi; exact HSL.out) rfl (by simp; omega)).mono ?_
        rintro e w7 h7
        obtain ⟨rfl, v7, hw7, hf7, ho7⟩ := StepP.next HFK.out HOK2.out h7
        have HW7 := Lib.hid hw7
        have HF7 := Lib.hid hf7
        have HO7' := Lib.hid ho7
        clear h7 hw7 hf7 ho7 s0
        go_wp2_with fail
        go_roundw
        case rel =>
          refine ⟨k + 1, v7, by omega, by go_num, ?_, HF7.out, HO7'.out⟩
          have h := HW7.out
          rw [← HTE.out] at h
          rw [agT_succ (by omega) hkl, HS.out]
          simpa [itT] using h
        case measure => simp [intOf]; omega
    obtain rfl : k = x.against.length := by omega
    have HTX : Hid (T = ts ++ hd14 x ++ agT x.against) := Lib.hid (by rw [← HTE.out, List.take_length])
    have x7 := hx.cell 7
    simp at x7
    clear hx hst hkl
    go_wp2_with fail
    clear x7
    refine (put_step S wr v' T [.word wPay, .num x.pay] _ _ 2 HWK.out rfl (fun i hi => by
      rcases List.mem_cons.1 hi with rfl | hi
      · unfold okI wPay; decide
      · obtain rfl := List.mem_singleton.1 hi; exact HO7.out) rfl (by simp; omega)).mono ?_
    rintro e w7 h7
    obtain ⟨rfl, v7, hw7, hf7, ho7⟩ := StepP.next HFK.out HOK2.out h7
    have HW7 := Lib.hid hw7
    have HF7 := Lib.hid hf7
    have HO7' := Lib.hid ho7
    obtain ⟨hx, _⟩ := HFX.out w7 hf7
    have x9 := hx.cell 9
    have x10 := hx.cell 10
    simp at x9 x10
    clear h7 hw7 hf7 ho7 hx
    obtain ⟨bk, hbk⟩ : ∃ b, x.back = b := ⟨_, rfl⟩
    have HBK := Lib.hid hbk
    rw [hbk] at x9
    clear hbk
    have HY10 := Lib.hid x10
    cases bk with
    | true =>
      go_wp2_with fail
      clear x9
      refine (put_step S w7 v7 _ [.word wBack] _ _ 1 HW7.out rfl (fun i hi => by obtain rfl := List.mem_singleton.1 hi; unfold okI wBack; decide) rfl (by simp; omega)).mono ?_
      rintro e w8 h8
      obtain ⟨rfl, v8, hw8, hf8, ho8⟩ := StepP.next HF7.out HO7'.out h8
      have HW8 := Lib.hid hw8
      have HF8 := Lib.hid hf8
      have HO8 := Lib.hid ho8
      obtain ⟨hx, _⟩ := HFX.out w8 hf8
      have x10 := hx.cell 10
      simp at x10
      clear h8 hw8 hf8 ho8 hx
      by_cases q1 : x.els = 1
      · have HEL : Hid (elT x.els = [nmT wElse, nmT wHold]) := Lib.hid (by rw [q1]; rfl)
        rw [q1] at x10
        clear q1
        go_wp2_with fail
        clear x10
        refine (put_step S w8 v8 (_) [.word wElse, .word wHold] _ _ 2 HW8.out rfl (fun i hi => by
          rcases List.mem_cons.1 hi with rfl | hi
          · unfold okI wElse; decide
          · obtain rfl := List.mem_singleton.1 hi; unfold okI wHold; decide) rfl (by simp; omega)).mono ?_
        rintro e w9 h9
        obtain ⟨rfl, v9, hw9, hf9, ho9⟩ := StepP.next HF8.out HO8.out h9
        have HW9 := Lib.hid hw9
        have HF9 := Lib.hid hf9
        have HO9 := Lib.hid ho9
        clear h9 hw9 hf9 ho9
        go_wp2_with fail
        refine (put_step S w9 v9 _ [.sign sSemi] _ _ 1 HW9.out rfl (fun i hi => by obtain rfl := List.mem_singleton.1 hi; unfold okI sSemi; decide) rfl (by simp; omega)).mono ?_
        rintro e wE hE
        obtain ⟨rfl, vE, hwE, hfE, hoE⟩ := StepP.next HF9.out HO9.out hE
        have HWE := Lib.hid hwE
        have HFE := Lib.hid hfE
        have HOE := Lib.hid hoE
        clear hE hwE hfE hoE
        go_wp2
        first | go_end0 | refine bodyPost_ret (results_none rfl _ _ _) rfl ?_
        refine ⟨rfl, vE, ?_, HFR0.out.trans HFE.out (.inl rfl), (show OwnOf v.ownBlock vE.ownBlock w.heap.size from (OwnOf.trans (.inl rfl) HOE.out HSZ1.out))⟩
        have h := HWE.out
        rw [ordT_eq, HEL.out, HBK.out]
        rw [HTX.out] at h
        simpa [itT] using h
      by_cases q2 : x.els = 2
      · have HEL : Hid (elT x.els = [nmT wElse, nmT wForward]) := Lib.hid (by rw [q2]; rfl)
        rw [q2] at x10
        clear q1 q2
        go_wp2_with fail
        clear x10
        refine (put_step S w8 v8 (_) [.word wElse, .word wForward] _ _ 2 HW8.out rfl (fun i hi => by
          rcases List.mem_cons.1 hi with rfl | hi
          · unfold okI wElse; decide
          · obtain rfl := List.mem_singleton.1 hi; unfold okI wForward; decide) rfl (by simp; omega)).mono ?_
        rintro e w9 h9
        obtain ⟨rfl, v9, hw9, hf9, ho9⟩ := StepP.next HF8.out HO8.out h9
        have HW9 := Lib.hid hw9
        have HF9 := Lib.hid hf9
        have HO9 := Lib.hid ho9
        clear h9 hw9 hf9 ho9
        go_wp2_with fail
        refine (put_step S w9 v9 _ [.sign sSemi] _ _ 1 HW9.out rfl (fun i hi => by obtain rfl := List.mem_singleton.1 hi; unfold okI sSemi; decide) rfl (by simp; omega)).mono ?_
        rintro e wE hE
        obtain ⟨rfl, vE, hwE, hfE, hoE⟩ := StepP.next HF9.out HO9.out hE
        have HWE := Lib.hid hwE
        have HFE := Lib.hid hfE
        have HOE := Lib.hid hoE
        clear hE hwE hfE hoE
        go_wp2
        first | go_end0 | refine bodyPost_ret (results_none rfl _ _ _) rfl ?_
        refine ⟨rfl, vE, ?_, HFR0.out.trans HFE.out (.inl rfl), (show OwnOf v.ownBlock vE.ownBlock w.heap.size from (OwnOf.trans (.inl rfl) HOE.out HSZ1.out))⟩
        have h := HWE.out
        rw [ordT_eq, HEL.out, HBK.out]
        rw [HTX.out] at h
        simpa [itT] using h
      · have HEL : Hid (elT x.els = []) := Lib.hid (by unfold elT; rw [if_neg q1, if_neg q2])
        have r1 : (x.els == 1) = false := by simpa using q1
        have r2 : (x.els == 2) = false := by simpa using q2
        clear q1 q2
        go_wp2_with fail
        clear x10 r1 r2
        refine (put_step S w8 v8 (_) [.sign sSemi] _ _ 1 HW8.out rfl (fun i hi => by obtain rfl := List.mem_singleton.1 hi; unfold okI sSemi; decide) rfl (by simp; omega)).mono ?_
        rintro e wE hE
        obtain ⟨rfl, vE, hwE, hfE, hoE⟩ := StepP.next HF8.out HO8.out hE
        have HWE := Lib.hid hwE
        have HFE := Lib.hid hfE
        have HOE := Lib.hid hoE
        clear hE hwE hfE hoE
        go_wp2
        first | go_end0 | refine bodyPost_ret (results_none rfl _ _ _) rfl ?_
        refine ⟨rfl, vE, ?_, HFR0.out.trans HFE.out (.inl rfl), (show OwnOf v.ownBlock vE.ownBlock w.heap.size from (OwnOf.trans (.inl rfl) HOE.out HSZ1.out))⟩
        have h := HWE.out
        rw [ordT_eq, HEL.out, HBK.out]
        rw [HTX.out] at h
        simpa [itT] using h
    | false =>
      by_cases q1 : x.els = 1
      · have HEL : Hid (elT x.els = [nmT wElse, nmT wHold]) := Lib.hid (by rw [q1]; rfl)
        rw [q1] at x10
        clear q1
        go_wp2_with fail
        clear x10
        refine (put_step S w7 v7 (_) [.word wElse, .word wHold] _ _ 2 HW7.out rfl (fun i hi => by
          rcases List.mem_cons.1 hi with rfl | hi
          · unfold okI wElse; decide
          · obtain rfl := List.mem_singleton.1 hi; unfold okI wHold; decide) rfl (by simp; omega)).mono ?_
        rintro e w9 h9
        obtain ⟨rfl, v9, hw9, hf9, ho9⟩ := StepP.next HF7.out HO7'.out h9
        have HW9 := Lib.hid hw9
        have HF9 := Lib.hid hf9
        have HO9 := Lib.hid ho9
        clear h9 hw9 hf9 ho9
        go_wp2_with fail
        refine (put_step S w9 v9 _ [.sign sSemi] _ _ 1 HW9.out rfl (fun i hi => by obtain rfl := List.mem_singleton.1 hi; unfold okI sSemi; decide) rfl (by simp; omega)).mono ?_
        rintro e wE hE
        obtain ⟨rfl, vE, hwE, hfE, hoE⟩ := StepP.next HF9.out HO9.out hE
        have HWE := Lib.hid hwE
        have HFE := Lib.hid hfE
        have HOE := Lib.hid hoE
        clear hE hwE hfE hoE
        go_wp2
        first | go_end0 | refine bodyPost_ret (results_none rfl _ _ _) rfl ?_
        refine ⟨rfl, vE, ?_, HFR0.out.trans HFE.out (.inl rfl), (show OwnOf v.ownBlock vE.ownBlock w.heap.size from (OwnOf.trans (.inl rfl) HOE.out HSZ1.out))⟩
        have h := HWE.out
        rw [ordT_eq, HEL.out, HBK.out]
        rw [HTX.out] at h
        simpa [itT] using h
      by_cases q2 : x.els = 2
      · have HEL : Hid (elT x.els = [nmT wElse, nmT wForward]) := Lib.hid (by rw [q2]; rfl)
        rw [q2] at x10
        clear q1 q2
        go_wp2_with fail
        clear x10
        refine (put_step S w7 v7 (_) [.word wElse, .word wForward] _ _ 2 HW7.out rfl (fun i hi => by
          rcases List.mem_cons.1 hi with rfl | hi
          · unfold okI wElse; decide
          · obtain rfl := List.mem_singleton.1 hi; unfold okI wForward; decide) rfl (by simp; omega)).mono ?_
        rintro e w9 h9
        obtain ⟨rfl, v9, hw9, hf9, ho9⟩ := StepP.next HF7.out HO7'.out h9
        have HW9 := Lib.hid hw9
        have HF9 := Lib.hid hf9
        have HO9 := Lib.hid ho9
        clear h9 hw9 hf9 ho9
        go_wp2_with fail
        refine (put_step S w9 v9 _ [.sign sSemi] _ _ 1 HW9.out rfl (fun i hi => by obtain rfl := List.mem_singleton.1 hi; unfold okI sSemi; decide) rfl (by simp; omega)).mono ?_
        rintro e wE hE
        obtain ⟨rfl, vE, hwE, hfE, hoE⟩ := StepP.next HF9.out HO9.out hE
        have HWE := Lib.hid hwE
        have HFE := Lib.hid hfE
        have HOE := Lib.hid hoE
        clear hE hwE hfE hoE
        go_wp2
        first | go_end0 | refine bodyPost_ret (results_none rfl _ _ _) rfl ?_
        refine ⟨rfl, vE, ?_, HFR0.out.trans HFE.out (.inl rfl), (show OwnOf v.ownBlock vE.ownBlock w.heap.size from (OwnOf.trans (.inl rfl) HOE.out HSZ1.out))⟩
        have h := HWE.out
        rw [ordT_eq, HEL.out, HBK.out]
        rw [HTX.out] at h
        simpa [itT] using h
      · have HEL : Hid (elT x.els = []) := Lib.hid (by unfold elT; rw [if_neg q1, if_neg q2])
        have r1 : (x.els == 1) = false := by simpa using q1
        have r2 : (x.els == 2) = false := by simpa using q2
        clear q1 q2
        go_wp2_with fail
        clear x10 r1 r2
        refine (put_step S w7 v7 (_) [.sign sSemi] _ _ 1 HW7.out rfl (fun i hi => by obtain rfl := List.mem_singleton.1 hi; unfold okI sSemi; decide) rfl (by simp; omega)).mono ?_
        rintro e wE hE
        obtain ⟨rfl, vE, hwE, hfE, hoE⟩ := StepP.next HF7.out HO7'.out hE
        have HWE := Lib.hid hwE
        have HFE := Lib.hid hfE
        have HOE := Lib.hid hoE
        clear hE hwE hfE hoE
        go_wp2
        first | go_end0 | refine bodyPost_ret (results_none rfl _ _ _) rfl ?_
        refine ⟨rfl, vE, ?_, HFR0.out.trans HFE.out (.inl rfl), (show OwnOf v.ownBlock vE.ownBlock w.heap.size from (OwnOf.trans (.inl rfl) HOE.out HSZ1.out))⟩
        have h := HWE.out
        rw [ordT_eq, HEL.out, HBK.out]
        rw [HTX.out] at h
        simpa [itT] using h
end Go.Proofs.YtfnmidddgjlipaaGreatDoor
