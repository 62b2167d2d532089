/- FnExactDependsOn, for every input: the row out of the printed contract of the law and what PureFnExactDependsOn proves of numbers and lists alone. Conditions: none beyond the row's own. -/
import Derived.Test.YtbfochojhmggfaaRows
import Derived.Test.YtbfochojhmggfaaQ6
import Derived.Test.YtbfochojhmggfaaOpens
import Derived.Test.YtbfochojhmggfaaPureFnExactDependsOn
import Derived.WalkKit
import Derived.ProofKit
import Derived.OpenShut
import Derived.ShutString
import Derived.ChangeOld
import Derived.Below
import Derived.SizedLaws
namespace Go.Proofs.Ytbfochojhmggfaa.fnExactDependsOn
open Go.ChangeShapes Go.WideShapes Go.ChangeAt Go.RowKit Go.Proofs.YtbfochojhmggfaaW.PrintWords Go.Proofs.Ytbfochojhmggfaa.Q
open Go.ChangeMaps (open_string shut_string)
set_option linter.unusedVariables false
theorem own : ownKnob Try.prog.godebug = none := by kernel_rfl
theorem laidOut : laidOutB Try.prog = true := by kernel_rfl
set_option maxRecDepth 100000 in
theorem lifted (os : Os) (started : os.Started) (H : Type) (enc : TypeId × Value → H) :
    ReturnsInHanded {} Try.checked os 3 .any (Rows.fnExactDependsOnSpec.pre6 enc Try.prog Try.f3 Rows.fnExactDependsOnRow.domain false) (Rows.fnExactDependsOnSpec.post enc Try.prog Try.f3 false true false false) := by
  refine returnsInHanded_of_change_sized (C := Try.checked) own started (by kernel_rfl) Try.func3
    (ChangeSpec.witness6 (enc := enc) (C := Try.checked) false ⟨#[], #[.agg #[.int .i64 0, .slice none 0 0, .int .i64 0]], []⟩ 8 (by kernel_rfl) (by kernel_rfl) (by kernel_rfl) (by kernel_rfl)) ?_
  intro W base args ds gs before hval0 hW hcnd hsz0 _
  have hval : ∀ (j : Nat) t v, Try.f3.params[j]? = some t → args[j]? = some v → Value.okWide Try.prog W .any base t v := hval0
  have hW' := hW
  obtain ⟨p, q, hA0, hV, rfl, hfz, hnd⟩ := hW
  have hA : DataW.TrodAll enc Try.prog W 0 (fun _ => true) true Try.f3.params.toList args.toList ds p := hA0
  rw [Try.params3] at hA hval
  obtain ⟨v0, vs0, d0, ds0, p0, q0, hargs, rfl, rfl, h0, r0⟩ := trodAll_cons hA
  obtain ⟨rfl, rfl, rfl⟩ := trodAll_nil r0
  obtain rfl : args = #[v0] := by cases args; simp_all
  obtain ⟨rfl, rfl⟩ := trodVars_none hV
  have k0 := h0
  have lt0 : ∀ x ∈ p0, x.block < W.heap.size := by obtain ⟨m, hm⟩ := k0; exact DataW.trod_lt m _ _ _ hm
  obtain ⟨c0, rfl, _⟩ := okWide_struct Try.underlying24 (hval 0 24 v0 rfl rfl)
  obtain ⟨x0, K0⟩ : ∃ x, Opens.k24.K W x c0.toList := by obtain ⟨f, hf⟩ := h0; exact Opens.rd24 f f (Nat.le_refl _) _ _ hf
  obtain ⟨A0_1, c0_1, e0, l0_1, C0_1⟩ := Opens.k24_open K0
  obtain rfl : c0 = #[.int .i64 x0.f0, .slice A0_1 x0.f1.length c0_1, .int .i64 x0.f2] := by cases c0; simpa using e0
  clear hA0 hval0 hsz0
  obtain ⟨k, hk⟩ := Pure.FnExactDependsOn x0.f0 x0.f1 x0.f2 C0_1.2.1
  refine (laws_FnExactDependsOn.calls k x0.f0 _ _ x0.f1 x0.f2 true W C0_1 l0_1 hk).mono fun e W' ⟨he, bel⟩ => ?_
  subst he
  exact ⟨_, rfl, _, _, _, [], _, [], hW', trodAll_mk1 (shut_bool Try.underlying4 _), (trodAll_cons_mk (Below.trod laidOut (by kernel_rfl) (of_decide_eq_true (by kernel_rfl)) k0 bel lt0) trodAll_mk0), rfl, bel.frame _, fun h => by cases h⟩
theorem over : Rows.fnExactDependsOnRow.holds Try.pinned (OpenSpec.ofChange Rows.fnExactDependsOnSpec) :=
  OpenClaim.holds_of_wide 3 Try.f3 rfl rfl rfl rfl rfl rfl rfl ⟨rfl, rfl, rfl, rfl, rfl⟩ rfl rfl rfl rfl rfl (by kernel_rfl) Try.func3 (by kernel_rfl)
    (of_decide_eq_true (by kernel_rfl)) (by unfold Func.isWrapper; first | (rw [if_pos (by decide +kernel)]; kernel_rfl) | (rw [if_neg (by decide +kernel)]; exact ⟨rfl, rfl⟩))
    (fun os started H enc _ => lifted os started H enc)
theorem proved : Rows.FnExactDependsOnSaid := over
#print axioms proved
end Go.Proofs.Ytbfochojhmggfaa.fnExactDependsOn
namespace Go.Proofs.Ytbfochojhmggfaa
/-- The row, under a short name, for the claim. -/
theorem fnExactDependsOn_holds : Rows.FnExactDependsOnSaid := fnExactDependsOn.proved
end Go.Proofs.Ytbfochojhmggfaa
