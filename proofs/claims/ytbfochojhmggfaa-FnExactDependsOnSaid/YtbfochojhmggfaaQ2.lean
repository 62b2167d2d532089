-- Made by this session's program wip/tools/myprint.py out of the translation; Lean checks it.
import Derived.Test.YtbfochojhmggfaaQ0
import Derived.Test.YtbfochojhmggfaaSorts
namespace Go.Proofs.Ytbfochojhmggfaa.Q
open Go.RowKit Go.Proofs.YtbfochojhmggfaaW.PrintWords Go.Proofs.YtbfochojhmggfaaW.PrintLast Go.Proofs.YtbfochojhmggfaaW.PrintMore
attribute [local go_sem] max2_int min2_int max_two min_two max_three min_three max_four min_four   -- for this text's walks alone
set_option linter.unusedVariables false
set_option linter.unusedSimpArgs false

-- STUB slices.Sort[[]int,int]
-- IMPORT Derived.Test.YtbfochojhmggfaaSorts
/-! ### slices_Sort_int_int: function 86 -/
def slices_Sort_int_int.f (l0 : List Int) : Option (List Int) := if l0.length < 4611686018427387904 then some (Sorts.sorted l0) else none
set_option maxHeartbeats 8000000 in
set_option maxRecDepth 100000 in
theorem slices_Sort_int_int.calls (P0_ : Nat → Prop) (u9000_ : Value) (l0 : List Int) (r : List Int) (w0 w : World) (hB : Below w0.heap.size w0 w) (ho0 : Kd.R (Kd.int .i64) 3 w w0.heap.size P0_ u9000_ l0) (h : slices_Sort_int_int.f l0 = some r) :
    Calls Try.prog 86 #[u9000_] w fun e w' => e = .returned (.tuple #[]) ∧ Kd.R (Kd.int .i64) 3 w' w0.heap.size (fun k_ => (P0_ k_ ∨ w.heap.size ≤ k_)) u9000_ r ∧ Below w0.heap.size w0 w' ∧ Kept w w' (fun k_ => P0_ k_) := by
  exact Sorts.sort_calls P0_ u9000_ l0 r w0 w hB ho0 h

end Go.Proofs.Ytbfochojhmggfaa.Q
