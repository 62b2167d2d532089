/- The interpreter is right for the tables of this program. -/
import Derived.Test.YtbfochojhmggfaaGreatAiP5
import Derived.Test.YtbfochojhmggfaaGreatAiQ1
import Derived.KernelRfl
import Derived.Test.YtbfochojhmggfaaGreatShelf
set_option linter.unusedSimpArgs false
set_option linter.unusedVariables false
/- The tables are right. -/
namespace Go.AI
open Go Go.Proofs
theorem told_ok {f : FuncId} {args : List PV} {b : Map (List PV)} {m : Map Blk} {r : List PV × Map (List PV) × Map Blk} (_ : C.ok f = false) (h : C.ext f args b m = some r) : SoundAt C f args b m r := by
  replace h : told f args b m = some r := h
  unfold told at h
  split at h
  · exact told_sort (C := C) ⟨_, Tryz.func227, by kernel_rfl, by kernel_rfl⟩ Tryz.slices_Sort_int_none Tryz.slices_Sort_int h
  · exact told_compact (C := C) ⟨_, Tryz.func228, by kernel_rfl, by kernel_rfl⟩ Tryz.slices_Compact_int_empty Tryz.slices_Compact_int h
  · cases h
theorem types_ok : goods.all (fun t => tokB C good t && eqB C t) = true := by kernel_rfl
theorem funcs_ok : oks.all (fnOk C good) = true := by kernel_rfl
theorem ready : Ready C good := ready_of (gs := goods) (fs := oks) (fun t h => by simpa [good] using h) (fun f h => by simpa [C] using h) types_ok funcs_ok (fun _ => rfl) told_ok
theorem all_right : Sound C (call C) := right ready (by kernel_rfl)
end Go.AI
