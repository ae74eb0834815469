/-
  CountFurther holds: for all arguments the law returns true, and the arguments read as before.
  No condition beyond the row's own cells.
-/
import Derived.OpenShut
import Derived.Test.YthekefnocphcdaaGbg

set_option linter.unusedVariables false

set_option linter.unusedSimpArgs false

namespace Go.Proofs.Ythekefnocphcdaa

open Go.ChangeShapes Go.WideShapes Go.ChangeAt Go.RowKit

theorem countFurther_own : ownKnob Try.prog.godebug = none := by kernel_rfl

theorem countFurther_laid : laidOutB Try.prog = true := by kernel_rfl

set_option maxRecDepth 100000 in
theorem countFurther_lifted (os : Os) (started : os.Started) (H : Type) (enc : TypeId × Value → H) :
    ReturnsInHanded {} Try.checked os 6 .any (Rows.countFurtherSpec.pre6 enc Try.prog Try.f6 Rows.countFurtherRow.domain false) (Rows.countFurtherSpec.post enc Try.prog Try.f6 false true false false) := by
  refine returnsInHanded_of_change_sized (C := Try.checked) countFurther_own started (by kernel_rfl) Try.func6
    (ChangeSpec.witness6 (enc := enc) (C := Try.checked) false ⟨#[], #[.agg #[.int .i64 0, .slice none 0 0], .int .u8 0, .int .u8 0, .bool false], []⟩ 8 (by kernel_rfl) (by kernel_rfl) (by kernel_rfl) (by kernel_rfl)) ?_
  intro W base args ds gs before hval0 hW hcnd hsz0 _
  have hsz : (DataW.weightsEach Try.prog (Try.f6.params.toList ++ Rows.countFurtherSpec.plain.varTypes Try.prog) (ds ++ gs)).all (· ≤ reachBytes) = true := hsz0
  have hval : ∀ (j : Nat) t v, Try.f6.params[j]? = some t → args[j]? = some v → Value.okWide Try.prog W .any base t v := hval0
  have hW' := hW
  obtain ⟨p, q, hA0, hV, rfl, hfz, hnd⟩ := hW
  have hA : DataW.TrodAll enc Try.prog W 0 (fun _ => true) true Try.f6.params.toList args.toList ds p := hA0
  rw [Try.params6] at hA hval hsz
  obtain ⟨v0, vs0, d0, ds0, p0, q0, e0, rfl, rfl, h0, r0⟩ := trodAll_cons hA
  obtain ⟨v1, vs1, d1, ds1, p1, q1, rfl, rfl, rfl, h1, r1⟩ := trodAll_cons r0
  obtain ⟨v2, vs2, d2, ds2, p2, q2, rfl, rfl, rfl, h2, r2⟩ := trodAll_cons r1
  obtain ⟨v3, vs3, d3, ds3, p3, q3, rfl, rfl, rfl, h3, r3⟩ := trodAll_cons r2
  obtain ⟨rfl, rfl, rfl⟩ := trodAll_nil r3
  obtain rfl : args = #[v0, v1, v2, v3] := by cases args; simp_all
  obtain ⟨rfl, rfl⟩ := trodVars_none hV
  have hw : ∀ n ∈ DataW.weightsEach Try.prog [24, 5, 5, 4] [d0, d1, d2, d3], n ≤ reachBytes := by
    intro n hn
    have := List.all_eq_true.1 hsz n hn
    simpa using this
  obtain ⟨vsf, vlf, f, rfl, h_f⟩ := open_IsFlow (hval 0 24 v0 rfl rfl) h0 (fun n hn => hw n (DataW.weights_mem_each (j := 0) (t := 24) rfl rfl n hn))
  obtain ⟨x_a, rfl, _, _, w_a⟩ := open_int Try.underlying5 (hval 1 5 v1 rfl rfl) h1
  have b_a : 0 ≤ x_a ∧ x_a ≤ 255 := by simpa [Lit.wf, IntKind.min, IntKind.max, IntKind.signed, IntKind.bits] using w_a
  obtain ⟨a, rfl⟩ : ∃ n : Nat, x_a = (n : Int) := ⟨x_a.toNat, by omega⟩
  obtain ⟨x_o, rfl, _, _, w_o⟩ := open_int Try.underlying5 (hval 2 5 v2 rfl rfl) h2
  have b_o : 0 ≤ x_o ∧ x_o ≤ 255 := by simpa [Lit.wf, IntKind.min, IntKind.max, IntKind.signed, IntKind.bits] using w_o
  obtain ⟨o, rfl⟩ : ∃ n : Nat, x_o = (n : Int) := ⟨x_o.toNat, by omega⟩
  obtain ⟨k, rfl, _, _⟩ := open_bool Try.underlying4 (hval 3 4 v3 rfl rfl) h3
  have hlt := hW'.lt
  simp only [List.append_nil] at hW' hlt
  refine (countFurther_any W.heap.size W vsf vlf f a o k (by omega) (by omega) h_f (Nat.le_refl _)).mono fun e W' ⟨he, hb⟩ => ?_
  subst he
  refine ⟨_, rfl, _, _, _, [], p0 ++ (p1 ++ (p2 ++ (p3 ++ []))), [], hW', trodAll_mk1 (shut_bool Try.underlying4 _), ?_, rfl, hb.frame _, fun h => by cases h⟩
  exact trodAll_cons_mk (hb.trod countFurther_laid (by kernel_rfl) (of_decide_eq_true (by kernel_rfl)) h0 (fun x hx => hlt x (by simp [hx]))) 
    (trodAll_cons_mk (hb.trod countFurther_laid (by kernel_rfl) (of_decide_eq_true (by kernel_rfl)) h1 (fun x hx => hlt x (by simp [hx]))) 
    (trodAll_cons_mk (hb.trod countFurther_laid (by kernel_rfl) (of_decide_eq_true (by kernel_rfl)) h2 (fun x hx => hlt x (by simp [hx]))) 
    (trodAll_cons_mk (hb.trod countFurther_laid (by kernel_rfl) (of_decide_eq_true (by kernel_rfl)) h3 (fun x hx => hlt x (by simp [hx]))) trodAll_mk0)))

theorem countFurther_holds : Rows.CountFurtherSaid :=
  OpenClaim.holds_of_wide 6 Try.f6 rfl rfl rfl rfl rfl rfl rfl ⟨rfl, rfl, rfl, rfl, rfl⟩ rfl rfl rfl rfl rfl (by kernel_rfl) Try.func6 (by kernel_rfl)
    (of_decide_eq_true (by kernel_rfl)) (by unfold Func.isWrapper; first | (rw [if_pos (by decide +kernel)]; kernel_rfl) | (rw [if_neg (by decide +kernel)]; exact ⟨rfl, rfl⟩))
    (fun os started H enc _ => countFurther_lifted os started H enc)

end Go.Proofs.Ythekefnocphcdaa
