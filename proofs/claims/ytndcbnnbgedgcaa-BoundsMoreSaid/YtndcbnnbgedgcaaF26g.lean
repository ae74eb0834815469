/-
  The walks of slices.AppendSeq and slices.Collect at numbers.
-/
import Derived.Test.YtndcbnnbgedgcaaF26f
set_option linter.unusedVariables false
set_option linter.unusedSimpArgs false
namespace Go.Proofs.Ytndcbnnbgedgcaa
open Go.RowKit
attribute [local go_sem] Oper.semAt_some

def IntSeq (g : FuncId) (lb : Array Value) (xs : List Int) (w : World) : Prop :=
  IterC Try.prog g lb xs.length (fun i _ args => args = #[.int .i64 (nth xs i)]) (fun k => k < w.heap.size) w

set_option maxHeartbeats 2000000 in
set_option maxRecDepth 100000 in
/-- slices.AppendSeq, from nil on -/
theorem appendseq_any (g : FuncId) (lb : Array Value) (xs : List Int) (w0 w : World) (hseq : IntSeq g lb xs w0) (heg : Enters Try.prog g) (hb0 : Below w0.heap.size w0 w) (hl : xs.length ≤ 1000000) (h64 : ∀ x ∈ xs, I64 x) :
    Calls Try.prog 75 #[.slice none 0 0, .func (.func g) #[] lb] w fun e w' => ∃ v, e = .returned v ∧ OwnInts w.heap.size w' v xs ∧ Below w.heap.size w w' := by
  have HE64 := Lib.hid (nth_64 h64)
  have HSEQ := Lib.hid hseq
  have HEG := Lib.hid heg
  have HB0 := Lib.hid hb0
  clear hseq heg hb0 h64
  refine (callsIn_wide (n := 11)).1 ?_
  refine callsIn_of_wp_marks Try.func75 rfl trivial ?_ rfl
  simp only [Try.ntmps75, List.size_toArray, List.length_cons, List.length_nil, Nat.reduceAdd, Nat.reduceSub, Array.replicate_succ, Array.replicate_zero, List.push_toArray, List.append_toArray, List.nil_append, List.cons_append]
  gi_wp2
  have HL6 := Lib.hid (Cell1.new w (.slice none 0 0) 25)
  have HW6 := Lib.hid (box_below' w (.cells #[.slice none 0 0] 25))
  obtain ⟨bl, hbl⟩ : ∃ x, w.heap.size = x := ⟨_, rfl⟩
  have hbl' := hbl
  rw [hbl] at HL6 HW6 ⊢
  obtain ⟨w6, hw6⟩ : ∃ w6, w.alloc (.cells #[.slice none 0 0] 25) = w6 := ⟨_, rfl⟩
  rw [hw6] at HL6 HW6 ⊢
  have HBL : Hid (w.heap.size = bl) := Lib.hid hbl
  clear hw6 hbl hbl'
  refine range_law (w := w6) (w0 := w0) rfl HEG.out HSEQ.out (Turned.of_below (X := fun k => ¬ k < w0.heap.size) (HB0.out.trans (HW6.out.mono (by have := HB0.out.size; have := HBL.out; omega))))
    (fun k hk => hk) (fun k => k = bl) (fun k hk => ⟨by rw [hk]; exact HL6.out.lt, by rw [hk]; have := HB0.out.size; have := HBL.out; omega⟩)
    (fun i W args h => by rw [h]; rfl) (fun i A B args h _ => h)
    (fun s i W => ∃ v, Cell1 W bl v ∧ OwnInts s W v (xs.take i) ∧ Below bl w W) (fun _ _ _ _ => False) ?hI (fun _ _ _ _ _ _ h _ => h) ?h0 ?hround ?hdone (fun _ _ _ _ _ _ _ _ _ h _ => h.elim)
  case hI =>
    rintro s i A A' hs ⟨v, h1, h2, h3⟩ ht
    have := HL6.out.lt
    exact ⟨v, h1.turned ht (fun h => by omega), h2.turned ht (fun k hk h => by omega), h3.trans (ht.below (by have := h3.size; have := HBL.out; omega) (fun k hk h => by omega))⟩
  case h0 =>
    intro s W1 hs hs1 hb
    exact ⟨_, HL6.out.ext hb, OwnInts.nil _ _, HW6.out.trans (hb.mono (by have := HL6.out.lt; omega))⟩
  case hround =>
    rintro l s i W args hs hsW hi ⟨v, h1, h2, h3⟩ rfl
    gi_wp2
    refine ⟨Below.refl _ _, fun W2 ht => ?_⟩
    have hlt6 := HL6.out.lt
    have q1 := h1.turned ht (fun h => by omega)
    have q2 := h2.turned ht (fun k hk h => by omega)
    have HB2 : Hid (Below bl w W2) := Lib.hid (h3.trans (ht.below (by have := h3.size; have := HBL.out; omega) (fun k hk h => by omega)))
    have HQ1 := Lib.hid q1
    have HQ2 := Lib.hid q2
    have HSZ : Hid (s ≤ W2.heap.size) := Lib.hid (by have := ht.size; omega)
    have HBS : Hid (bl < s) := Lib.hid (by omega)
    have HTK := Lib.hid (nth_take hi)
    have c1 := q1.cell
    clear h1 h2 h3 q1 q2 ht hlt6
    gi_wp2_with (gi_at_builtin; refine append_intIn (n := nth xs i) rfl _ _ rfl rfl (HQ2.out.alloc _) rfl ?c1 (HE64.out i) ?c3 ?c4 ?c5)
    try (case c1 => exact World.cell?_alloc_at _ _ _ _ rfl)
    case c3 => simp; omega
    try (case c4 => have := HSZ.out; simp; omega)
    case c5 =>
      intro v' w8 ho8 hg8
      obtain ⟨a8, m8, n8, rfl⟩ := ho8.form'
      have hne : some bl ≠ v.ownBlock := fun e => by have := (HQ2.out.1.lt bl e.symm).1; have := HBS.out; omega
      have k8 := (HQ1.out.alloc (.cells #[.int .i64 (nth xs i)] 3)).grown hg8 hne
      have HK8 := Lib.hid k8
      have HO8 := Lib.hid ho8
      have HG8 : Hid (Turned (fun k => k = bl ∨ s ≤ k) W2 w8) := Lib.hid ((Turned.of_below (box_below' W2 (.cells #[.int .i64 (nth xs i)] 3))).trans (Turned.of_grown hg8 (fun k e => Or.inr (HQ2.out.1.lt k e).1)))
      have HB8 : Hid (Below bl w w8) := Lib.hid (HB2.out.trans (HG8.out.below (by have := HQ1.out.lt; omega) (fun k hk h => by have := HBS.out; omega)))
      have k9 := k8.cell
      have k10 := k8.free
      clear ho8 hg8 hne k8 c1
      gi_wp2
      have hgs := grown_setCell w8 ⟨bl, 0, none⟩ (.slice a8 m8 n8)
      have hts : Turned (fun k => k = bl ∨ s ≤ k) w8 (w8.setCell ⟨bl, 0, none⟩ (.slice a8 m8 n8)) := Turned.of_grown hgs (fun k e => by cases e; exact Or.inl rfl)
      refine ⟨HG8.out.trans hts, _, HK8.out.set _, ?_, HB8.out.trans (hts.below (by have := HK8.out.lt; omega) (fun k hk h => by have := HBS.out; omega))⟩
      rw [HTK.out]
      exact HO8.out.kept hgs (Or.inr (fun e => by have := (HO8.out.1.lt bl e).1; have := HBS.out; omega))
  case hdone =>
    rintro d s W hd hds hsW ⟨v, h1, h2, h3⟩ hk
    have HD := Lib.hid hk
    rw [List.take_of_length_le (Nat.le_refl _)] at h2
    have H2' := Lib.hid h2
    have H3' := Lib.hid h3
    obtain ⟨a8, m8, n8, rfl⟩ := h2.form'
    have c1 := h1.cell
    clear h1 h2 h3 hk
    gi_wp2
    refine ⟨by simp, .inl ⟨_, _, rfl, run_takeDeferred HD.out, ?_⟩⟩
    have hts : Turned (fun k => k = d) W (W.putObj d (.deferred none)) := Turned.putObj _ _ _ rfl
    have hlt6 := HL6.out.lt
    refine ⟨.slice a8 m8 n8, by simp [results, Try.results75, go_sem], _, rfl, ?_, ?_⟩
    · exact (H2'.out.turned hts (fun k hk h => by omega)).mono (by have := HBL.out; omega)
    · rw [HBL.out]
      exact H3'.out.trans (hts.below (by have := H3'.out.size; have := HBL.out; omega) (fun k hk h => by omega))

/-- slices.Collect -/
theorem collect_any (g : FuncId) (lb : Array Value) (xs : List Int) (w0 w : World) (hseq : IntSeq g lb xs w0) (heg : Enters Try.prog g) (hb0 : Below w0.heap.size w0 w) (hl : xs.length ≤ 1000000) (h64 : ∀ x ∈ xs, I64 x) :
    Calls Try.prog 41 #[.func (.func g) #[] lb] w fun e w' => ∃ v, e = .returned v ∧ OwnInts w.heap.size w' v xs ∧ Below w.heap.size w w' := by
  have HC := Lib.hid (appendseq_any g lb xs w0 w hseq heg hb0 hl h64)
  clear hseq heg hb0 h64
  go_enter Try.func41, Try.ntmps41
  go_wp2_with (go_at_call 75; refine HC.out.mono ?_; rintro e w5 ⟨v, rfl, ho, hb⟩; have HO := Lib.hid ho; have HB := Lib.hid hb; clear ho hb)
  go_ret
  exact ⟨_, rfl, HO.out, HB.out⟩

end Go.Proofs.Ytndcbnnbgedgcaa
