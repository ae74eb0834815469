/-
  ExplainDenySpec holds: for all arguments the law returns true, and the arguments read as before.
  No condition beyond the row's own cells.
-/
import Derived.OpenShut
import Derived.Test.YteiaeaciaglmgaaGcf
set_option linter.unusedVariables false
set_option linter.unusedSimpArgs false
namespace Go.Proofs.Yteiaeaciaglmgaa
open Go.ChangeShapes Go.WideShapes Go.ChangeAt Go.RowKit
theorem explainDenySpec_own : ownKnob Try.prog.godebug = none := by kernel_rfl
theorem explainDenySpec_laid : laidOutB Try.prog = true := by kernel_rfl
set_option maxRecDepth 100000 in
theorem explainDenySpec_lifted (os : Os) (started : os.Started) (H : Type) (enc : TypeId × Value → H) :
  ReturnsInHanded {} Try.checked os 4 .any (Rows.explainDenySpecSpec.pre6 enc Try.prog Try.f4 Rows.explainDenySpecRow.domain false) (Rows.explainDenySpecSpec.post enc Try.prog Try.f4 false true false false) := by
 refine returnsInHanded_of_change_sized (C := Try.checked) explainDenySpec_own started (by kernel_rfl) Try.func4
  (ChangeSpec.witness6 (enc := enc) (C := Try.checked) false ⟨#[], #[.agg #[.int .i64 0, .slice none 0 0], .slice none 0 0, .agg #[.int .i64 0, .int .i64 0, .slice none 0 0, .int .i64 0]], []⟩ 8 (by kernel_rfl) (by kernel_rfl) (by kernel_rfl) (by kernel_rfl)) ?_
 intro W base args ds gs before hval0 hW hcnd hsz0 _
 have hsz : (DataW.weightsEach Try.prog (Try.f4.params.toList ++ Rows.explainDenySpecSpec.plain.varTypes Try.prog) (ds ++ gs)).all (· ≤ reachBytes) = true := hsz0
 have hval : ∀ (j : Nat) t v, Try.f4.params[j]? = some t → args[j]? = some v → Value.okWide Try.prog W .any base t v := hval0
 have hW' := hW
 obtain ⟨p, q, hA0, hV, rfl, hfz, hnd⟩ := hW
 have hA : DataW.TrodAll enc Try.prog W 0 (fun _ => true) true Try.f4.params.toList args.toList ds p := hA0
 rw [Try.params4] at hA hval hsz
 obtain ⟨v0, vs0, d0, ds0, p0, q0, e0, rfl, rfl, h0, r0⟩ := trodAll_cons hA
 obtain ⟨v1, vs1, d1, ds1, p1, q1, rfl, rfl, rfl, h1, r1⟩ := trodAll_cons r0
 obtain ⟨v2, vs2, d2, ds2, p2, q2, rfl, rfl, rfl, h2, r2⟩ := trodAll_cons r1
 obtain ⟨rfl, rfl, rfl⟩ := trodAll_nil r2
 obtain rfl : args = #[v0, v1, v2] := by cases args; simp_all
 obtain ⟨rfl, rfl⟩ := trodVars_none hV
 have hw : ∀ n ∈ DataW.weightsEach Try.prog [24, 25, 31] [d0, d1, d2], n ≤ reachBytes := by
  intro n hn
  have := List.all_eq_true.1 hsz n hn
  simpa using this
 obtain ⟨vsf, vlf, f, rfl, h_f⟩ := open_IsFlow (hval 0 24 v0 rfl rfl) h0 (fun n hn => hw n (DataW.weights_mem_each (j := 0) (t := 24) rfl rfl n hn))
 obtain ⟨a_a, n_a, c_a, rfl⟩ := okWide_slice Try.underlying25 (hval 1 25 v1 rfl rfl)
 obtain ⟨a, h_a⟩ := open_IsInts' rfl h1 (fun n hn => hw n (DataW.weights_mem_each (j := 1) (t := 25) rfl rfl n hn))
 obtain ⟨cd_dn, dn, rfl, h_dn⟩ := open_IsDen (hval 2 31 v2 rfl rfl) h2 (fun n hn => hw n (DataW.weights_mem_each (j := 2) (t := 31) rfl rfl n hn))
 have hlt := hW'.lt
 simp only [List.append_nil] at hW' hlt
 refine (explainDenySpec_any W.heap.size W vsf vlf _ cd_dn f a dn h_f h_a h_dn (Nat.le_refl _)).mono fun e W' ⟨he, hb⟩ => ?_
 subst he
 refine ⟨_, rfl, _, _, _, [], p0 ++ (p1 ++ (p2 ++ [])), [], hW', trodAll_mk1 (shut_bool Try.underlying4 _), ?_, rfl, hb.frame _, fun h => by cases h⟩
 exact trodAll_cons_mk (hb.trod explainDenySpec_laid (by kernel_rfl) (of_decide_eq_true (by kernel_rfl)) h0 (fun x hx => hlt x (by simp [hx]))) 
  (trodAll_cons_mk (hb.trod explainDenySpec_laid (by kernel_rfl) (of_decide_eq_true (by kernel_rfl)) h1 (fun x hx => hlt x (by simp [hx]))) 
  (trodAll_cons_mk (hb.trod explainDenySpec_laid (by kernel_rfl) (of_decide_eq_true (by kernel_rfl)) h2 (fun x hx => hlt x (by simp [hx]))) trodAll_mk0))
theorem explainDenySpec_holds : Rows.ExplainDenySpecSaid :=
 OpenClaim.holds_of_wide 4 Try.f4 rfl rfl rfl rfl rfl rfl rfl ⟨rfl, rfl, rfl, rfl, rfl⟩ rfl rfl rfl rfl rfl (by kernel_rfl) Try.func4 (by kernel_rfl)
  (of_decide_eq_true (by kernel_rfl)) (by unfold Func.isWrapper; first | (rw [if_pos (by decide +kernel)]; kernel_rfl) | (rw [if_neg (by decide +kernel)]; exact ⟨rfl, rfl⟩))
  (fun os started H enc _ => explainDenySpec_lifted os started H enc)
end Go.Proofs.Yteiaeaciaglmgaa
