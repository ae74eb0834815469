/-
  The walks of reach.Ends, reach.Matrix.
-/
import Derived.Test.YtndcbnnbgedgcaaF26g
set_option linter.unusedVariables false
set_option linter.unusedSimpArgs false
namespace Go.Proofs.Ytndcbnnbgedgcaa
open Go.RowKit

theorem endsL_64' {f : Flow} (h : checkE f = 0) (s : Int) : ∀ x ∈ reachL f s, I64 x := by
  intro x hx
  unfold reachL at hx
  rw [amongTo_eq _ _ _ (Nat.le_refl _)] at hx
  have := (List.mem_filter.1 hx).1
  exact endsL_64 h x (List.mem_of_mem_take this)
theorem reachL_len {f : Flow} (h : checkE f = 0) (s : Int) : (reachL f s).length ≤ 50000 := by
  have := amongTo_len (endsL f) (spotsTo f s f.lots.length) (endsL f).length
  have := endsL_len h
  unfold reachL
  omega

set_option maxHeartbeats 1000000 in
/-- the ends of a sender, collected: reached and then Collect -/
theorem reach_collect (B : Nat) (w : World) (vs vl ve : Value) (f : Flow) (s : Int) (hf : IsFlow B w vs vl f) (hB : B ≤ w.heap.size) (he : IsInts w.heap.size w ve (endsL f)) (h0 : checkE f = 0) (hs0 : 0 ≤ s) (hs1 : s < f.senders) (w' : World)
    (hw' : w' = ((w.alloc (.cells #[vs, vl] 24)).alloc (.cells #[ve] 25)).alloc (.cells #[.int .i64 s] 3)) :
    Below w.heap.size w w' ∧ Calls Try.prog 41 #[.func (.func 76) #[] #[.pointer (some ⟨w.heap.size, 0, none⟩), .pointer (some ⟨w.heap.size + 2, 0, none⟩), .pointer (some ⟨w.heap.size + 1, 0, none⟩)]] w' fun e w2 => ∃ v, e = .returned v ∧ OwnInts w.heap.size w2 v (reachL f s) ∧ Below w.heap.size w w2 := by
  have hX1 := (((Box.new w #[vs, vl] 24).alloc (.cells #[ve] 25)).alloc (.cells #[.int .i64 s] 3))
  have hX2 := (Box.new (w.alloc (.cells #[vs, vl] 24)) #[ve] 25).alloc (.cells #[.int .i64 s] 3)
  have hX3 := Box.new ((w.alloc (.cells #[vs, vl] 24)).alloc (.cells #[ve] 25)) #[.int .i64 s] 3
  have hb : Below w.heap.size w w' := by rw [hw']; exact (((Below.refl _ w).alloc (Nat.le_refl _) _).alloc (by simp) _).alloc (by simp; omega) _
  rw [← hw'] at hX1 hX2 hX3
  simp only [World.size_alloc] at hX2 hX3
  clear hw'
  refine ⟨hb, ?_⟩
  have hf' := (hf.below hb hB).mono (Nat.le_trans hB hb.size)
  have he' := (he.below hb (Nat.le_refl _)).mono hb.size
  refine (collect_any _ _ (reachL f s) w' w' (reached_iter w.heap.size (w.heap.size + 2) (w.heap.size + 1) w' vs vl ve f s hf' he' hX1 hX3 hX2 h0 hs0 hs1) (enters_of Try.func76 (by kernel_rfl) rfl) (Below.refl _ _) (by have := reachL_len h0 s; omega) (endsL_64' h0 s)).mono ?_
  rintro e w2 ⟨v, rfl, ho, hbw⟩
  exact ⟨v, rfl, ho.mono hb.size, hb.trans (hbw.mono hb.size)⟩

set_option maxHeartbeats 1000000 in
/-- reach.Ends -/
theorem rends_any (B : Nat) (w : World) (vs vl : Value) (f : Flow) (s : Int) (hf : IsFlow B w vs vl f) (hB : B ≤ w.heap.size) (hs : I64 s) :
    Calls Try.prog 20 #[.agg #[vs, vl], .int .i64 s] w fun e w' => ∃ v, e = .returned (.tuple #[v, .int .i64 (reachE f s)]) ∧ OwnInts w.heap.size w' v (reachR f s) ∧ Below w.heap.size w w' := by
  have HF := Lib.hid hf
  obtain ⟨rfl, ⟨hs1, hs2⟩, hl⟩ := hf
  obtain ⟨b, off, cap, ⟨a, rfl, hcap, hmax, ha⟩, hlen, hc⟩ := hl
  clear hc ha
  have HC := Lib.hid (fun o => fEnds_any B (w.alloc o) _ _ f (HF.out.below (box_below hB o) (Nat.le_refl _)) (by simp; omega))
  by_cases h1 : checkE f = 0
  · have HER : Hid (endsR f = endsL f) := Lib.hid (by unfold endsR; rw [if_pos h1])
    have h1' : (checkE f != 0) = false := by simpa using h1
    have H1 := Lib.hid h1
    clear h1
    by_cases h2 : s < 0
    · have h2' : decide (s < 0) = true := decide_eq_true h2
      have HE : Hid (reachE f s = 1) := Lib.hid (by unfold reachE; rw [if_neg (by simp [H1.out]), if_pos (Or.inl h2)])
      have HR : Hid (reachR f s = []) := Lib.hid (by unfold reachR; rw [HE.out]; rfl)
      go_enter Try.func20, Try.ntmps20
      go_wp2_with (go_at_call 40; refine (HC.out _).mono ?_; rintro e w5 ⟨v5, rfl, ho5, hb5⟩; have HB5 := Lib.hid hb5; clear ho5 hb5)
      go_ret2
      exact ⟨_, by rw [HE.out]; rfl, by rw [HR.out]; exact OwnInts.nil _ _, (box_below (Nat.le_refl _) _).trans (HB5.out.mono (by simp))⟩
    · have h2' : decide (s < 0) = false := decide_eq_false h2
      by_cases h3 : f.senders ≤ s
      · have h3' : decide (f.senders ≤ s) = true := decide_eq_true h3
        have HE : Hid (reachE f s = 1) := Lib.hid (by unfold reachE; rw [if_neg (by simp [H1.out]), if_pos (Or.inr h3)])
        have HR : Hid (reachR f s = []) := Lib.hid (by unfold reachR; rw [HE.out]; rfl)
        go_enter Try.func20, Try.ntmps20
        go_wp2_with (go_at_call 40; refine (HC.out _).mono ?_; rintro e w5 ⟨v5, rfl, ho5, hb5⟩; have HB5 := Lib.hid hb5; have HX := Lib.hid ((Box.new w _ _).ext hb5); obtain ⟨z5, r5⟩ := HX.out; clear ho5 hb5)
        go_ret2
        exact ⟨_, by rw [HE.out]; rfl, by rw [HR.out]; exact OwnInts.nil _ _, (box_below (Nat.le_refl _) _).trans (HB5.out.mono (by simp))⟩
      · have h3' : decide (f.senders ≤ s) = false := decide_eq_false h3
        have HE : Hid (reachE f s = 0) := Lib.hid (by unfold reachE; rw [if_neg (by simp [H1.out]), if_neg (by omega)])
        have HR : Hid (reachR f s = reachL f s) := Lib.hid (by unfold reachR; rw [if_pos HE.out])
        go_enter Try.func20, Try.ntmps20
        go_wp2_with fail
        refine (HC.out _).mono ?_
        rintro e w5 ⟨v5, rfl, ho5, hb5⟩
        rw [HER.out] at ho5
        have HI5 := Lib.hid ho5.isInts
        obtain ⟨a5, m5, n5, rfl⟩ := ho5.form'
        have HX5 := Lib.hid ((Box.new w _ _).ext hb5)
        have HW5 : Hid (Below w.heap.size w w5) := Lib.hid ((box_below (Nat.le_refl _) _).trans (hb5.mono (by simp)))
        have HF5 := Lib.hid (HF.out.below HW5.out hB)
        obtain ⟨z5, r5⟩ := HX5.out
        clear ho5 hb5
        go_wp2_with fail
        refine (reached_any w5 _ _ _ f B w5.heap.size (endsL f) s HF5.out HI5.out).mono ?_
        rintro e w6 ⟨rfl, hw6⟩
        have HK := Lib.hid (reach_collect B w5 _ _ _ f s HF5.out (by have := HW5.out.size; omega) HI5.out H1.out (by omega) (by omega) w6 hw6)
        clear hw6 z5 r5
        go_wp2_with (go_at_call 41; refine HK.out.2.mono ?_; rintro e w7 ⟨v7, rfl, ho7, hb7⟩; have HO7 := Lib.hid ho7; have HB7 := Lib.hid hb7; clear ho7 hb7)
        go_ret2
        exact ⟨_, by rw [HE.out]; rfl, by rw [HR.out]; exact HO7.out.mono HW5.out.size, HW5.out.trans (HB7.out.mono HW5.out.size)⟩
  · have HE : Hid (reachE f s = checkE f) := Lib.hid (by unfold reachE; rw [if_pos h1])
    have HR : Hid (reachR f s = []) := Lib.hid (by unfold reachR; rw [HE.out, if_neg h1])
    have h1' : (checkE f != 0) = true := by simpa using h1
    clear h1
    go_enter Try.func20, Try.ntmps20
    go_wp2_with (go_at_call 40; refine (HC.out _).mono ?_; rintro e w5 ⟨v5, rfl, ho5, hb5⟩; have HB5 := Lib.hid hb5; clear ho5 hb5)
    go_ret2
    exact ⟨_, by rw [HE.out]; rfl, by rw [HR.out]; exact OwnInts.nil _ _, (box_below (Nat.le_refl _) _).trans (HB5.out.mono (by simp))⟩

end Go.Proofs.Ytndcbnnbgedgcaa
