/-
  The walk of flows.Ends.
-/
import Derived.Test.YtndcbnnbgedgcaaF25d
import Derived.Test.YtndcbnnbgedgcaaR26d
set_option linter.unusedVariables false
set_option linter.unusedSimpArgs false
namespace Go.Proofs.Ytndcbnnbgedgcaa
open Go.RowKit
attribute [local go_sem] Oper.semAt_some

theorem nth_take {zs : List Int} {i : Nat} (h : i < zs.length) : zs.take (i + 1) = zs.take i ++ [nth zs i] := by
  rw [List.take_succ_eq_append_getElem h, nth_eq_getElem h]
theorem endsL_64 {f : Flow} (h : checkE f = 0) : ∀ x ∈ endsL f, I64 x := by
  intro x hx
  have := (endsTo_mem f x _).1 hx
  have := checkE_ok h
  unfold I64
  omega
theorem nth_64 {zs : List Int} (h : ∀ x ∈ zs, I64 x) (i : Nat) : I64 (nth zs i) := by
  by_cases hi : i < zs.length
  · rw [nth_eq_getElem hi]; exact h _ (List.getElem_mem hi)
  · unfold nth; rw [List.getD_eq_getElem?_getD, List.getElem?_eq_none (by omega)]; simp [I64]

set_option maxHeartbeats 2000000 in
set_option maxRecDepth 100000 in
/-- flows.Ends -/
theorem fEnds_any (B : Nat) (w : World) (vs vl : Value) (f : Flow) (hf : IsFlow B w vs vl f) (hB : B ≤ w.heap.size) :
    Calls Try.prog 40 #[.agg #[vs, vl]] w fun e w' => ∃ v, e = .returned (.tuple #[v, .int .i64 (checkE f)]) ∧ OwnInts w.heap.size w' v (endsR f) ∧ Below w.heap.size w w' := by
  have HF := Lib.hid hf
  obtain ⟨rfl, ⟨hs1, hs2⟩, hl⟩ := hf
  obtain ⟨b, off, cap, ⟨a, rfl, hcap, hmax, ha⟩, hlen, hc⟩ := hl
  clear hc ha
  have HC := Lib.hid (fun o o' => fcheck_any B ((w.alloc o).alloc o') _ _ f (HF.out.below (((Below.refl B w).alloc hB o).alloc (by simp; omega) o') (Nat.le_refl _)) (by simp; omega))
  by_cases h1 : checkE f = 0
  · have HER : Hid (endsR f = endsL f) := Lib.hid (by unfold endsR; rw [if_pos h1])
    have h1' : (checkE f != 0) = false := by simpa using h1
    have H1 := Lib.hid h1
    have HEL := Lib.hid (endsL_len h1)
    have HE64 := Lib.hid (nth_64 (endsL_64 h1))
    clear h1
    refine (callsIn_wide (n := 11)).1 ?_
    refine callsIn_of_wp_marks Try.func40 rfl trivial ?_ rfl
    simp only [Try.ntmps40, List.size_toArray, List.length_cons, List.length_nil, Nat.reduceAdd, Nat.reduceSub, Array.replicate_succ, Array.replicate_zero, List.push_toArray, List.append_toArray, List.nil_append, List.cons_append]
    gi_wp2_with (first
      | (refine ⟨trivial, ?_⟩; gi_at_call 35; refine (callsIn_wide.2 (HC.out _ _)).mono ?_; rintro e w5 ⟨rfl, hb5⟩; have HB5 := Lib.hid hb5; have HX5 := Lib.hid (((Box.new w _ _).alloc _).ext hb5); have HL5 := Lib.hid ((Cell1.new (w.alloc _) _ _).ext hb5); obtain ⟨z5, r5⟩ := HX5.out; clear hb5)
      | (refine ⟨trivial, ?_⟩; gi_at_call 74; refine (callsIn_wide.2 (fends_any _ _ _ f B (HF.out.below ((((Below.refl B w).alloc hB _).alloc (by simp; omega) _).trans (HB5.out.mono (by simp; omega))) (Nat.le_refl _)))).mono ?_; rintro e w6 ⟨rfl, rfl⟩))
    have HW5 : Hid (Below w.heap.size w w5) := Lib.hid ((((Below.refl _ w).alloc (Nat.le_refl _) _).alloc (by simp) _).trans (HB5.out.mono (by simp; omega)))
    have HW6 := Lib.hid (HW5.out.alloc (HW5.out.size) (.cells #[.int .i64 f.senders, .slice a f.lots.length cap] 24))
    have HL6 := Lib.hid (HL5.out.alloc (.cells #[.int .i64 f.senders, .slice a f.lots.length cap] 24))
    have HX6 := Lib.hid (Box.new w5 #[.int .i64 f.senders, .slice a f.lots.length cap] 24)
    have HZ := Lib.hid HL5.out.lt
    obtain ⟨bf, hbf⟩ : ∃ x, w5.heap.size = x := ⟨_, rfl⟩
    obtain ⟨bl, hbl⟩ : ∃ x, w.heap.size + 1 = x := ⟨_, rfl⟩
    have hs1 : (w.alloc (.cells #[.int .i64 f.senders, .slice a f.lots.length cap] 24)).heap.size = bl := by simp [hbl]
    rw [hs1] at HL6 HZ
    rw [hbf] at HX6 HZ
    rw [hbf, hbl]
    obtain ⟨w6, hw6⟩ : ∃ w6, w5.alloc (.cells #[.int .i64 f.senders, .slice a f.lots.length cap] 24) = w6 := ⟨_, rfl⟩
    rw [hw6] at HW6 HL6 HX6 ⊢
    have hbl2 : w.heap.size < bl := by omega
    clear hw6 z5 r5 hbf hbl HX5 HL5 HB5 HW5
    have HBl := Lib.hid hbl2
    clear hbl2
    refine range_law (w := w6) rfl (enters_of Try.func94 (by kernel_rfl) rfl) (fends_iter B bf w6 _ _ f (HF.out.below HW6.out hB) (by have := HW6.out.size; omega) HX6.out H1.out) (Turned.refl _ _)
      (fun k hk => by rcases hk with hk | rfl; have := HW6.out.size; omega; exact HX6.out.1) (fun k => k = bl) (fun k hk => ⟨by rw [hk]; exact HL6.out.lt, by rw [hk]; rintro (h | h); have := HBl.out; omega; have := HZ.out; omega⟩)
      (fun i W args h => by rw [h]; rfl) (fun i A B args h _ => h)
      (fun s i W => ∃ v, Cell1 W bl v ∧ OwnInts s W v ((endsL f).take i) ∧ Below w.heap.size w W) (fun _ _ _ _ => False) ?hI (fun _ _ _ _ _ _ h _ => h) ?h0 ?hround ?hdone (fun _ _ _ _ _ _ _ _ _ h _ => h.elim)
    case hI =>
      rintro s i A A' hs ⟨v, h1, h2, h3⟩ ht
      have := HW6.out.size
      exact ⟨v, h1.turned ht (fun h => by have := HL6.out.lt; omega), h2.turned ht (fun k hk h => by omega), h3.trans (ht.below h3.size (fun k hk h => by omega))⟩
    case h0 =>
      intro s W1 hs hs1 hb
      exact ⟨_, HL6.out.ext hb, OwnInts.nil _ _, HW6.out.trans (hb.mono HW6.out.size)⟩
    case hround =>
      rintro l s i W args hs hsW hi ⟨v, h1, h2, h3⟩ rfl
      gi_wp2
      refine ⟨Below.refl _ _, fun W2 ht => ?_⟩
      have q1 := h1.turned ht (fun h => by have := HL6.out.lt; omega)
      have q2 := h2.turned ht (fun k hk h => by omega)
      have HB2 : Hid (Below w.heap.size w W2) := Lib.hid (h3.trans (ht.below h3.size (fun k hk h => by have := HW6.out.size; omega)))
      have HQ1 := Lib.hid q1
      have HQ2 := Lib.hid q2
      have HSZ : Hid (s ≤ W2.heap.size) := Lib.hid (by have := ht.size; omega)
      have HBS : Hid (bl < s) := Lib.hid (by have := HL6.out.lt; omega)
      have HTK := Lib.hid (nth_take hi)
      have c1 := q1.cell
      clear h1 h2 h3 q1 q2 ht
      gi_wp2_with (gi_at_builtin; refine append_intIn (n := nth (endsL f) i) rfl _ _ rfl rfl (HQ2.out.alloc _) rfl ?c1 (HE64.out i) ?c3 ?c4 ?c5)
      try (case c1 => exact World.cell?_alloc_at _ _ _ _ rfl)
      case c3 => have := HEL.out; simp; omega
      try (case c4 => have := HSZ.out; simp; omega)
      case c5 =>
        intro v' w8 ho8 hg8
        obtain ⟨a8, m8, n8, rfl⟩ := ho8.form'
        have hne : some bl ≠ v.ownBlock := fun e => by have := (HQ2.out.1.lt bl e.symm).1; have := HBS.out; omega
        have k8 := (HQ1.out.alloc (.cells #[.int .i64 (nth (endsL f) i)] 3)).grown hg8 hne
        have HK8 := Lib.hid k8
        have HO8 := Lib.hid ho8
        have HG8 : Hid (Turned (fun k => k = bl ∨ s ≤ k) W2 w8) := Lib.hid ((Turned.of_below (box_below' W2 (.cells #[.int .i64 (nth (endsL f) i)] 3))).trans (Turned.of_grown hg8 (fun k e => Or.inr (HQ2.out.1.lt k e).1)))
        have HB8 : Hid (Below w.heap.size w w8) := Lib.hid (HB2.out.trans (HG8.out.below HB2.out.size (fun k hk h => by have := HBS.out; have := HBl.out; omega)))
        have k9 := k8.cell
        have k10 := k8.free
        clear ho8 hg8 hne k8 c1
        gi_wp2
        have hgs := grown_setCell w8 ⟨bl, 0, none⟩ (.slice a8 m8 n8)
        have hts : Turned (fun k => k = bl ∨ s ≤ k) w8 (w8.setCell ⟨bl, 0, none⟩ (.slice a8 m8 n8)) := Turned.of_grown hgs (fun k e => by cases e; exact Or.inl rfl)
        refine ⟨HG8.out.trans hts, _, HK8.out.set _, ?_, HB8.out.trans (hts.below HB8.out.size (fun k hk h => by have := HBS.out; have := HBl.out; omega))⟩
        rw [HTK.out]
        exact HO8.out.kept hgs (Or.inr (fun e => by have := (HO8.out.1.lt bl e).1; have := HBS.out; omega))
    case hdone =>
      rintro d s W hd hds hsW ⟨v, h1, h2, h3⟩ hk
      have HD := Lib.hid hk
      rw [List.take_of_length_le (Nat.le_refl _)] at h2
      have H1' := Lib.hid h1
      have H2' := Lib.hid h2
      have H3' := Lib.hid h3
      obtain ⟨a8, m8, n8, rfl⟩ := h2.form'
      have c1 := h1.cell
      have c2 := h1.free
      clear h1 h2 h3 hk
      gi_wp2
      have hdb : bl ≠ d := by have := HL6.out.lt; omega
      have hK : (W.setCell ⟨bl, 0, none⟩ (.slice a8 m8 n8)).heap[d]? = some (.deferred (some [])) := (Below.heap_setCell W _ _ d (fun e => hdb e.symm)).trans HD.out
      refine ⟨by simp, .inl ⟨_, _, rfl, run_takeDeferred hK, ?_⟩⟩
      have hts : Turned (fun k => k = bl ∨ k = d) W ((W.setCell ⟨bl, 0, none⟩ (.slice a8 m8 n8)).putObj d (.deferred none)) :=
        (Turned.of_grown (grown_setCell W ⟨bl, 0, none⟩ (.slice a8 m8 n8)) (fun k e => by cases e; exact Or.inl rfl)).trans (Turned.putObj _ _ _ (Or.inr rfl))
      have hcl : ((W.setCell ⟨bl, 0, none⟩ (.slice a8 m8 n8)).putObj d (.deferred none)).cell? ⟨bl, 0, none⟩ = some (.slice a8 m8 n8) :=
        (World.cell?_of_block (World.putObj_heap_other (w := W.setCell ⟨bl, 0, none⟩ (.slice a8 m8 n8)) hdb)).trans (H1'.out.set _).cell
      refine ⟨.tuple #[.slice a8 m8 n8, .int .i64 0], by simp [results, Try.results40, go_sem, hcl], _, by rw [H1.out], ?_, ?_⟩
      · rw [HER.out]
        exact (H2'.out.turned hts (fun k hk h => by have := HL6.out.lt; omega)).mono (by have := HW6.out.size; omega)
      · exact H3'.out.trans (hts.below H3'.out.size (fun k hk h => by have := HBl.out; have := HW6.out.size; omega))
  · have HT : Hid (endsR f = []) := Lib.hid (by unfold endsR; rw [if_neg h1])
    have h1' : (checkE f != 0) = true := by simpa using h1
    clear h1
    go_enter Try.func40, Try.ntmps40
    go_wp2_with (go_at_call 35; refine (HC.out _ _).mono ?_; rintro e w5 ⟨rfl, hb5⟩; have HB5 := Lib.hid hb5; have HL5 := Lib.hid ((Cell1.new (w.alloc _) _ _).ext hb5); have c5 := HL5.out.cell; have f5 := HL5.out.free; rw [World.size_alloc] at c5 f5; clear hb5)
    have HW5 : Hid (Below w.heap.size w w5) := Lib.hid ((((Below.refl _ w).alloc (Nat.le_refl _) _).alloc (by simp) _).trans (HB5.out.mono (by simp; omega)))
    have hset := (HL5.out.set (.slice none 0 0)).cell
    rw [World.size_alloc] at hset
    refine bodyPost_ret (v := .tuple #[.slice none 0 0, .int .i64 (checkE f)]) (by simp [results, Try.results40, go_sem, hset]) rfl ⟨_, rfl, by rw [HT.out]; exact OwnInts.nil _ _, HW5.out.setCell (by show w.heap.size ≤ w.heap.size + 1; omega) _⟩

end Go.Proofs.Ytndcbnnbgedgcaa
