/-
  ExplainPossible holds: for all arguments the law returns true, and the arguments read as before.
  No condition beyond the row's own cells.
-/
import Derived.OpenShut
import Derived.Test.YteiaeaciaglmgaaGreatZgg
set_option linter.unusedVariables false
set_option linter.unusedSimpArgs false
namespace Go.Proofs.YteiaeaciaglmgaaGreat
open Go.ChangeShapes Go.WideShapes Go.ChangeAt Go.RowKit
theorem explainPossible_own : ownKnob Tryz.prog.godebug = none := by kernel_rfl
theorem explainPossible_laid : laidOutB Tryz.prog = true := by kernel_rfl
set_option maxRecDepth 100000 in
theorem explainPossible_lifted (os : Os) (started : os.Started) (H : Type) (enc : TypeId × Value → H) :
  ReturnsInHanded {} Tryz.checked os 3 .any (Rows.explainPossibleSpec.pre6 enc Tryz.prog Tryz.f3 Rows.explainPossibleRow.domain false) (Rows.explainPossibleSpec.post enc Tryz.prog Tryz.f3 false true false false) := by
 refine returnsInHanded_of_change_sized (C := Tryz.checked) explainPossible_own started (by kernel_rfl) Tryz.func3
  (ChangeSpec.witness6 (enc := enc) (C := Tryz.checked) false ⟨#[], #[.agg #[.int .i64 0, .slice none 0 0], .slice none 0 0], []⟩ 8 (by kernel_rfl) (by kernel_rfl) (by kernel_rfl) (by kernel_rfl)) ?_
 intro W base args ds gs before hval0 hW hcnd hsz0 _
 have hsz : (DataW.weightsEach Tryz.prog (Tryz.f3.params.toList ++ Rows.explainPossibleSpec.plain.varTypes Tryz.prog) (ds ++ gs)).all (· ≤ reachBytes) = true := hsz0
 have hval : ∀ (j : Nat) t v, Tryz.f3.params[j]? = some t → args[j]? = some v → Value.okWide Tryz.prog W .any base t v := hval0
 have hW' := hW
 obtain ⟨p, q, hA0, hV, rfl, hfz, hnd⟩ := hW
 have hA : DataW.TrodAll enc Tryz.prog W 0 (fun _ => true) true Tryz.f3.params.toList args.toList ds p := hA0
 rw [Tryz.params3] at hA hval hsz
 obtain ⟨v0, vs0, d0, ds0, p0, q0, e0, rfl, rfl, h0, r0⟩ := trodAll_cons hA
 obtain ⟨v1, vs1, d1, ds1, p1, q1, rfl, rfl, rfl, h1, r1⟩ := trodAll_cons r0
 obtain ⟨rfl, rfl, rfl⟩ := trodAll_nil r1
 obtain rfl : args = #[v0, v1] := by cases args; simp_all
 obtain ⟨rfl, rfl⟩ := trodVars_none hV
 have hw : ∀ n ∈ DataW.weightsEach Tryz.prog [24, 25] [d0, d1], n ≤ reachBytes := by
  intro n hn
  have := List.all_eq_true.1 hsz n hn
  simpa using this
 obtain ⟨vsf, vlf, f, rfl, h_f⟩ := open_IsFlow (hval 0 24 v0 rfl rfl) h0 (fun n hn => hw n (DataW.weights_mem_each (j := 0) (t := 24) rfl rfl n hn))
 obtain ⟨a_a, n_a, c_a, rfl⟩ := okWide_slice Tryz.underlying25 (hval 1 25 v1 rfl rfl)
 obtain ⟨a, h_a⟩ := open_IsInts' rfl h1 (fun n hn => hw n (DataW.weights_mem_each (j := 1) (t := 25) rfl rfl n hn))
 have hlt := hW'.lt
 simp only [List.append_nil] at hW' hlt
 refine (explainPossible_any W.heap.size W vsf vlf _ f a h_f h_a (Nat.le_refl _)).mono fun e W' ⟨he, hb⟩ => ?_
 subst he
 refine ⟨_, rfl, _, _, _, [], p0 ++ (p1 ++ []), [], hW', trodAll_mk1 (shut_bool Tryz.underlying4 _), ?_, rfl, hb.frame _, fun h => by cases h⟩
 exact trodAll_cons_mk (hb.trod explainPossible_laid (by kernel_rfl) (of_decide_eq_true (by kernel_rfl)) h0 (fun x hx => hlt x (by simp [hx]))) 
  (trodAll_cons_mk (hb.trod explainPossible_laid (by kernel_rfl) (of_decide_eq_true (by kernel_rfl)) h1 (fun x hx => hlt x (by simp [hx]))) trodAll_mk0)
theorem explainPossible_holds : Rows.ExplainPossibleSaid :=
 OpenClaim.holds_of_wide 3 Tryz.f3 rfl rfl rfl rfl rfl rfl rfl ⟨rfl, rfl, rfl, rfl, rfl⟩ rfl rfl rfl rfl rfl (by kernel_rfl) Tryz.func3 (by kernel_rfl)
  (of_decide_eq_true (by kernel_rfl)) (by unfold Func.isWrapper; first | (rw [if_pos (by decide +kernel)]; kernel_rfl) | (rw [if_neg (by decide +kernel)]; exact ⟨rfl, rfl⟩))
  (fun os started H enc _ => explainPossible_lifted os started H enc)
end Go.Proofs.YteiaeaciaglmgaaGreat
