/-
  PromiseViews holds: for all arguments the law returns true, and the arguments read as before.
  No condition beyond the row's own cells.
-/
import Derived.Test.YtndcbnnbgedgcaaP31q
import Derived.Test.YtndcbnnbgedgcaaOpenM
import Derived.Test.YtndcbnnbgedgcaaOpen
import Derived.OpenShut
set_option linter.unusedVariables false
set_option linter.unusedSimpArgs false
namespace Go.Proofs.Ytndcbnnbgedgcaa
open Go.ChangeShapes Go.WideShapes Go.ChangeAt Go.RowKit

theorem promiseViews_own : ownKnob Try.prog.godebug = none := by kernel_rfl
theorem promiseViews_laid : laidOutB Try.prog = true := by kernel_rfl

set_option maxRecDepth 100000 in
theorem promiseViews_lifted (os : Os) (started : os.Started) (H : Type) (enc : TypeId × Value → H) :
    ReturnsInHanded {} Try.checked os 8 .any (Rows.promiseViewsSpec.pre6 enc Try.prog Try.f8 Rows.promiseViewsRow.domain false) (Rows.promiseViewsSpec.post enc Try.prog Try.f8 false true false false) := by
  refine returnsInHanded_of_change_sized (C := Try.checked) promiseViews_own started (by kernel_rfl) Try.func8
    (ChangeSpec.witness6 (enc := enc) (C := Try.checked) false ⟨#[], #[.agg #[.int .i64 0, .slice none 0 0], .slice none 0 0, .slice none 0 0, .int .u32 0, .int .i64 0], []⟩ 8 (by kernel_rfl) (by kernel_rfl) (by kernel_rfl) (by kernel_rfl)) ?_
  intro W base args ds gs before hval0 hW hcnd hsz0 _
  have hsz : (DataW.weightsEach Try.prog (Try.f8.params.toList ++ Rows.promiseViewsSpec.plain.varTypes Try.prog) (ds ++ gs)).all (· ≤ reachBytes) = true := hsz0
  have hval : ∀ (j : Nat) t v, Try.f8.params[j]? = some t → args[j]? = some v → Value.okWide Try.prog W .any base t v := hval0
  have hW' := hW
  obtain ⟨p, q, hA0, hV, rfl, hfz, hnd⟩ := hW
  have hA : DataW.TrodAll enc Try.prog W 0 (fun _ => true) true Try.f8.params.toList args.toList ds p := hA0
  rw [Try.params8] at hA hval hsz
  obtain ⟨v0, vs0, d0, ds0, p0, q0, e0, rfl, rfl, h0, r0⟩ := trodAll_cons hA
  obtain ⟨v1, vs1, d1, ds1, p1, q1, rfl, rfl, rfl, h1, r1⟩ := trodAll_cons r0
  obtain ⟨v2, vs2, d2, ds2, p2, q2, rfl, rfl, rfl, h2, r2⟩ := trodAll_cons r1
  obtain ⟨v3, vs3, d3, ds3, p3, q3, rfl, rfl, rfl, h3, r3⟩ := trodAll_cons r2
  obtain ⟨v4, vs4, d4, ds4, p4, q4, rfl, rfl, rfl, h4, r4⟩ := trodAll_cons r3
  obtain ⟨rfl, rfl, rfl⟩ := trodAll_nil r4
  obtain rfl : args = #[v0, v1, v2, v3, v4] := by cases args; simp_all
  obtain ⟨rfl, rfl⟩ := trodVars_none hV
  have hw : ∀ n ∈ DataW.weightsEach Try.prog [24, 48, 25, 42, 3] [d0, d1, d2, d3, d4], n ≤ reachBytes := by
    intro n hn
    have := List.all_eq_true.1 hsz n hn
    simpa using this
  obtain ⟨vsf, vlf, f, rfl, h_f⟩ := open_IsFlow (hval 0 24 v0 rfl rfl) h0 (fun n hn => hw n (DataW.weights_mem_each (j := 0) (t := 24) rfl rfl n hn))
  obtain ⟨a_lines, n_lines, c_lines, rfl⟩ := okWide_slice Try.underlying48 (hval 1 48 v1 rfl rfl)
  obtain ⟨lines, h_lines⟩ := open_IsMat' rfl h1 (fun n hn => hw n (DataW.weights_mem_each (j := 1) (t := 48) rfl rfl n hn))
  obtain ⟨a_c, n_c, c_c, rfl⟩ := okWide_slice Try.underlying25 (hval 2 25 v2 rfl rfl)
  obtain ⟨c, h_c⟩ := open_IsInts' rfl h2 (fun n hn => hw n (DataW.weights_mem_each (j := 2) (t := 25) rfl rfl n hn))
  obtain ⟨x_q, rfl, _, _, w_q⟩ := open_int Try.underlying42 (hval 3 42 v3 rfl rfl) h3
  have b_q : 0 ≤ x_q ∧ x_q ≤ 4294967295 := by simpa [Lit.wf, IntKind.min, IntKind.max, IntKind.signed, IntKind.bits] using w_q
  obtain ⟨q, rfl⟩ : ∃ n : Nat, x_q = (n : Int) := ⟨x_q.toNat, by omega⟩
  obtain ⟨s, rfl, _, _, w_s⟩ := open_int Try.underlying3 (hval 4 3 v4 rfl rfl) h4
  have hlt := hW'.lt
  simp only [List.append_nil] at hW' hlt
  refine (promiseViews_any W.heap.size W vsf vlf _ _ f lines c q s h_f h_lines h_c (Nat.le_refl _) (I64.of_wf w_s) (by omega)).mono fun e W' ⟨he, hb⟩ => ?_
  subst he
  refine ⟨_, rfl, _, _, _, [], p0 ++ (p1 ++ (p2 ++ (p3 ++ (p4 ++ [])))), [], hW', trodAll_mk1 (shut_bool Try.underlying4 _), ?_, rfl, hb.frame _, fun h => by cases h⟩
  exact trodAll_cons_mk (hb.trod promiseViews_laid (by kernel_rfl) (of_decide_eq_true (by kernel_rfl)) h0 (fun x hx => hlt x (by simp [hx]))) 
    (trodAll_cons_mk (hb.trod promiseViews_laid (by kernel_rfl) (of_decide_eq_true (by kernel_rfl)) h1 (fun x hx => hlt x (by simp [hx]))) 
    (trodAll_cons_mk (hb.trod promiseViews_laid (by kernel_rfl) (of_decide_eq_true (by kernel_rfl)) h2 (fun x hx => hlt x (by simp [hx]))) 
    (trodAll_cons_mk (hb.trod promiseViews_laid (by kernel_rfl) (of_decide_eq_true (by kernel_rfl)) h3 (fun x hx => hlt x (by simp [hx]))) 
    (trodAll_cons_mk (hb.trod promiseViews_laid (by kernel_rfl) (of_decide_eq_true (by kernel_rfl)) h4 (fun x hx => hlt x (by simp [hx]))) trodAll_mk0))))

theorem promiseViews_holds : Rows.PromiseViewsSaid :=
  OpenClaim.holds_of_wide 8 Try.f8 rfl rfl rfl rfl rfl rfl rfl ⟨rfl, rfl, rfl, rfl, rfl⟩ rfl rfl rfl rfl rfl (by kernel_rfl) Try.func8 (by kernel_rfl)
    (of_decide_eq_true (by kernel_rfl)) (by unfold Func.isWrapper; first | (rw [if_pos (by decide +kernel)]; kernel_rfl) | (rw [if_neg (by decide +kernel)]; exact ⟨rfl, rfl⟩))
    (fun os started H enc _ => promiseViews_lifted os started H enc)

end Go.Proofs.Ytndcbnnbgedgcaa
