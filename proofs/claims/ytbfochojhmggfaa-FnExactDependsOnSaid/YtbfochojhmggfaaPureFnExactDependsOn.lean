/- FnExactDependsOn comes to true, as its printed function tells it. -/
import Derived.Test.YtbfochojhmggfaaPDepends
namespace Go.Proofs.Ytbfochojhmggfaa.Pure
open Go.RowKit Go.Proofs.Ytbfochojhmggfaa.Q Go.Proofs.YtbfochojhmggfaaW.PrintWords Go.Proofs.Ytbfochojhmggfaa.Base Go.Proofs.Ytbfochojhmggfaa.PDepends
theorem FnExactDependsOn (a0_0 : Int) (l0_1 : List S205) (a0_2 : Int) (h : l0_1.length ≤ 9223372036854775807) : ∃ k, laws_FnExactDependsOn.f k a0_0 l0_1 a0_2 = some true := by
  refine Ev.rounds (g := fun k => laws_FnExactDependsOn.f k a0_0 l0_1 a0_2) ?_
  simp only [laws_FnExactDependsOn.f, szDiagram_eq _ _ _ h, Option.bind_some]
  by_cases hl : l0_1.length ≤ 1048576
  · rw [if_pos hl]
    have hc : (l0_1.map cv).length ≤ 1048576 := by simpa using hl
    have h6 := D_length (l0_1.map cv)
    obtain ⟨l', hm⟩ := markDiagram_ev a0_0 a0_2 _ hc
    refine Ev.if_neg (by omega) ?_
    refine Ev.bind (toDiagram_ev _ _ _ hl) (Ev.bind (spec_ev _ _ _ hc) (Ev.bind (toDiagram_ev _ _ _ hl) (Ev.bind (impl_ev _ _ _ hc) ?_)))
    simp only [same]
    refine Ev.bind (eqIntS_ev (D (l0_1.map cv) 0) (by omega)) (Ev.if_pos rfl (Ev.bind (toDiagram_ev _ _ _ hl) (Ev.bind (eqDiagram_ev _ _ _ hc) (Ev.if_pos rfl (Ev.bind hm ?_)))))
    refine Ev.if_neg (by simp only []; omega) (Ev.bind (eqIntS_ev (D (l0_1.map cv) 0) (by omega)) ?_)
    refine Ev.shift ?_
    simp only [laws_FnExactDependsOn.j0]
    refine Ev.if_neg (by simp) (Ev.bind (markIntS_ev (D (l0_1.map cv) 0) (by omega)) (Ev.bind (heldIntS_ev (D (l0_1.map cv) 0).length (by omega)) ?_))
    refine Ev.if_neg (by omega) (Ev.if_pos rfl (Ev.bind (toDiagram_ev _ _ _ hl) (Ev.bind (impl_ev _ _ _ hc) ?_)))
    simp only [same]
    refine Ev.bind (eqIntS_ev (D (l0_1.map cv) 0) (by omega)) (Ev.if_pos rfl (Ev.bind (heldIntS_ev (D (l0_1.map cv) 0).length (by omega)) ?_))
    exact Ev.if_neg (by omega) (Ev.if_pos rfl (Ev.now _))
  · rw [if_neg hl]
    exact Ev.if_pos (by omega) (Ev.now _)
end Go.Proofs.Ytbfochojhmggfaa.Pure
