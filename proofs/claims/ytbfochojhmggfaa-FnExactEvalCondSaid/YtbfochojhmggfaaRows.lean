/-
  NARROWER THAN 'FOR EVERY INPUT', by the rows' own cells (each row's printed sentence says how): FnExactConflictsIn: loops · FnExactIsIdle: loops · FnExactIsSafer: loops · FnExactPublishEpoch: loops · FnExactCompileFor: loops · FnExactLeafHolds: loops · FnExactEvalCond: loops.
  DERIVED. THE GIVEN ROWS OF THIS SEAT. 10 by the template 'for every input the law returns true; each argument reads behind the call as it read before'; 0 by the template 'total and deterministic' (their statements: YtbfochojhmggfaaTotals.lean).
  GIVEN WITH THE SEED: the statements are not yours to turn. If you find one false, say at which input.
  Laid BY PROGRAM, IN A SANDBOX (cutbox-rows.mjs): the forced cells as the released guide's own fill.sh prints them over the translation c945a58fea39fcae… (all of the seat's roots in one cut). By AI agents, Wed Nov 11 2026. No macro, syntax, notation, axiom, sorry.
-/
import Derived.Test.YtbfochojhmggfaaChecked
import GoSem.Claim
import GoSem.ClaimJoined
import GoSem.ClaimMapViews
import Derived.JoinedTies
import Derived.KernelRfl
namespace Go.Proofs.Ytbfochojhmggfaa
/- THE CELL 'sum', in the pinned program and in every row, IS THE sha256 OF THE DUMP (.gsa) THAT YtbfochojhmggfaaProg.lean LOADS. Nothing in Lean hashes anything: it is a label: what it is worth is what the hold of that sum in a sandbox is worth. -/
noncomputable def Try.pinned : Pinned := { name := "ytbfochojhmggfaa", sum := "c945a58fea39fcaecf9c6a85874e260027a87d65519e9a3fdd135dea75842ae1", checked := Try.checked }
namespace Rows
def none {H : Type} : Left H := { results := [], args := [] }

/-- 'laws.FnExactDependsOn': WHATEVER THE INPUT: true; the input reads as it did. -/
def fnExactDependsOnSpec : ChangeSpec := { name := "fnExactDependsOn", fn := fun _ => fun
  | [d] => { results := [.lit (.bool true)], args := [d] }
  | _ => none }
def fnExactDependsOnRow : OpenClaim := { program := "ytbfochojhmggfaa", sum := "c945a58fea39fcaecf9c6a85874e260027a87d65519e9a3fdd135dea75842ae1", func := "loop.example/g00594/laws.FnExactDependsOn", spec := "fnExactDependsOn", recurses := true, apart := false }
def FnExactDependsOnSaid : Prop := fnExactDependsOnRow.holds Try.pinned (OpenSpec.ofChange fnExactDependsOnSpec)

/-- ITS FALSE NEIGHBOUR: 'it returns false'. Refute it at one input. -/
def fnExactDependsOnWrong : ChangeSpec := { name := "fnExactDependsOn", fn := fun _ => fun
  | [d] => { results := [.lit (.bool false)], args := [d] }
  | _ => none }
def FnExactDependsOnWrongFalsely : Prop := fnExactDependsOnRow.holds Try.pinned (OpenSpec.ofChange fnExactDependsOnWrong)

/-- 'laws.FnExactConflictsIn': WHATEVER THE INPUT: true; the input reads as it did. -/
def fnExactConflictsInSpec : ChangeSpec := { name := "fnExactConflictsIn", fn := fun _ => fun
  | [d] => { results := [.lit (.bool true)], args := [d] }
  | _ => none }
def fnExactConflictsInRow : OpenClaim := { program := "ytbfochojhmggfaa", sum := "c945a58fea39fcaecf9c6a85874e260027a87d65519e9a3fdd135dea75842ae1", func := "loop.example/g00594/laws.FnExactConflictsIn", spec := "fnExactConflictsIn", unfollowed := true, recurses := true, loops := true, apart := false }
def FnExactConflictsInSaid : Prop := fnExactConflictsInRow.holds Try.pinned (OpenSpec.ofChange fnExactConflictsInSpec)

/-- ITS FALSE NEIGHBOUR: 'it returns false'. Refute it at one input. -/
def fnExactConflictsInWrong : ChangeSpec := { name := "fnExactConflictsIn", fn := fun _ => fun
  | [d] => { results := [.lit (.bool false)], args := [d] }
  | _ => none }
def FnExactConflictsInWrongFalsely : Prop := fnExactConflictsInRow.holds Try.pinned (OpenSpec.ofChange fnExactConflictsInWrong)

/-- 'laws.FnExactIsIdle': WHATEVER THE INPUT: true; the input reads as it did. -/
def fnExactIsIdleSpec : ChangeSpec := { name := "fnExactIsIdle", fn := fun _ => fun
  | [d1, d2] => { results := [.lit (.bool true)], args := [d1, d2] }
  | _ => none }
def fnExactIsIdleRow : OpenClaim := { program := "ytbfochojhmggfaa", sum := "c945a58fea39fcaecf9c6a85874e260027a87d65519e9a3fdd135dea75842ae1", func := "loop.example/g00594/laws.FnExactIsIdle", spec := "fnExactIsIdle", unfollowed := true, recurses := true, loops := true, apart := false }
def FnExactIsIdleSaid : Prop := fnExactIsIdleRow.holds Try.pinned (OpenSpec.ofChange fnExactIsIdleSpec)

/-- ITS FALSE NEIGHBOUR: 'it returns false'. Refute it at one input. -/
def fnExactIsIdleWrong : ChangeSpec := { name := "fnExactIsIdle", fn := fun _ => fun
  | [d1, d2] => { results := [.lit (.bool false)], args := [d1, d2] }
  | _ => none }
def FnExactIsIdleWrongFalsely : Prop := fnExactIsIdleRow.holds Try.pinned (OpenSpec.ofChange fnExactIsIdleWrong)

/-- 'laws.FnExactIsSafer': WHATEVER THE INPUT: true; the input reads as it did. -/
def fnExactIsSaferSpec : ChangeSpec := { name := "fnExactIsSafer", fn := fun _ => fun
  | [d1, d2, d3, d4] => { results := [.lit (.bool true)], args := [d1, d2, d3, d4] }
  | _ => none }
def fnExactIsSaferRow : OpenClaim := { program := "ytbfochojhmggfaa", sum := "c945a58fea39fcaecf9c6a85874e260027a87d65519e9a3fdd135dea75842ae1", func := "loop.example/g00594/laws.FnExactIsSafer", spec := "fnExactIsSafer", unfollowed := true, recurses := true, loops := true, apart := false }
def FnExactIsSaferSaid : Prop := fnExactIsSaferRow.holds Try.pinned (OpenSpec.ofChange fnExactIsSaferSpec)

/-- ITS FALSE NEIGHBOUR: 'it returns false'. Refute it at one input. -/
def fnExactIsSaferWrong : ChangeSpec := { name := "fnExactIsSafer", fn := fun _ => fun
  | [d1, d2, d3, d4] => { results := [.lit (.bool false)], args := [d1, d2, d3, d4] }
  | _ => none }
def FnExactIsSaferWrongFalsely : Prop := fnExactIsSaferRow.holds Try.pinned (OpenSpec.ofChange fnExactIsSaferWrong)

/-- 'laws.FnDiagrams': WHATEVER THE INPUT: true; the input reads as it did. -/
def fnDiagramsSpec : ChangeSpec := { name := "fnDiagrams", fn := fun _ => fun
  | [d] => { results := [.lit (.bool true)], args := [d] }
  | _ => none }
def fnDiagramsRow : OpenClaim := { program := "ytbfochojhmggfaa", sum := "c945a58fea39fcaecf9c6a85874e260027a87d65519e9a3fdd135dea75842ae1", func := "loop.example/g00594/laws.FnDiagrams", spec := "fnDiagrams", recurses := true, apart := false }
def FnDiagramsSaid : Prop := fnDiagramsRow.holds Try.pinned (OpenSpec.ofChange fnDiagramsSpec)

/-- ITS FALSE NEIGHBOUR: 'it returns false'. Refute it at one input. -/
def fnDiagramsWrong : ChangeSpec := { name := "fnDiagrams", fn := fun _ => fun
  | [d] => { results := [.lit (.bool false)], args := [d] }
  | _ => none }
def FnDiagramsWrongFalsely : Prop := fnDiagramsRow.holds Try.pinned (OpenSpec.ofChange fnDiagramsWrong)

/-- 'laws.FnExactPublishEpoch': WHATEVER THE INPUT: true; the input reads as it did. -/
def fnExactPublishEpochSpec : ChangeSpec := { name := "fnExactPublishEpoch", fn := fun _ => fun
  | [d1, d2, d3, d4] => { results := [.lit (.bool true)], args := [d1, d2, d3, d4] }
  | _ => none }
def fnExactPublishEpochRow : OpenClaim := { program := "ytbfochojhmggfaa", sum := "c945a58fea39fcaecf9c6a85874e260027a87d65519e9a3fdd135dea75842ae1", func := "loop.example/g00594/laws.FnExactPublishEpoch", spec := "fnExactPublishEpoch", unfollowed := true, recurses := true, loops := true, apart := false }
def FnExactPublishEpochSaid : Prop := fnExactPublishEpochRow.holds Try.pinned (OpenSpec.ofChange fnExactPublishEpochSpec)

/-- ITS FALSE NEIGHBOUR: 'it returns false'. Refute it at one input. -/
def fnExactPublishEpochWrong : ChangeSpec := { name := "fnExactPublishEpoch", fn := fun _ => fun
  | [d1, d2, d3, d4] => { results := [.lit (.bool false)], args := [d1, d2, d3, d4] }
  | _ => none }
def FnExactPublishEpochWrongFalsely : Prop := fnExactPublishEpochRow.holds Try.pinned (OpenSpec.ofChange fnExactPublishEpochWrong)

/-- 'laws.FnExactCompileFor': WHATEVER THE INPUT: true; the input reads as it did. -/
def fnExactCompileForSpec : ChangeSpec := { name := "fnExactCompileFor", fn := fun _ => fun
  | [d1, d2, d3] => { results := [.lit (.bool true)], args := [d1, d2, d3] }
  | _ => none }
def fnExactCompileForRow : OpenClaim := { program := "ytbfochojhmggfaa", sum := "c945a58fea39fcaecf9c6a85874e260027a87d65519e9a3fdd135dea75842ae1", func := "loop.example/g00594/laws.FnExactCompileFor", spec := "fnExactCompileFor", unfollowed := true, recurses := true, loops := true, apart := false }
def FnExactCompileForSaid : Prop := fnExactCompileForRow.holds Try.pinned (OpenSpec.ofChange fnExactCompileForSpec)

/-- ITS FALSE NEIGHBOUR: 'it returns false'. Refute it at one input. -/
def fnExactCompileForWrong : ChangeSpec := { name := "fnExactCompileFor", fn := fun _ => fun
  | [d1, d2, d3] => { results := [.lit (.bool false)], args := [d1, d2, d3] }
  | _ => none }
def FnExactCompileForWrongFalsely : Prop := fnExactCompileForRow.holds Try.pinned (OpenSpec.ofChange fnExactCompileForWrong)

/-- 'laws.FnExactLeafHolds': WHATEVER THE INPUT: true; the input reads as it did. -/
def fnExactLeafHoldsSpec : ChangeSpec := { name := "fnExactLeafHolds", fn := fun _ => fun
  | [d1, d2, d3, d4] => { results := [.lit (.bool true)], args := [d1, d2, d3, d4] }
  | _ => none }
def fnExactLeafHoldsRow : OpenClaim := { program := "ytbfochojhmggfaa", sum := "c945a58fea39fcaecf9c6a85874e260027a87d65519e9a3fdd135dea75842ae1", func := "loop.example/g00594/laws.FnExactLeafHolds", spec := "fnExactLeafHolds", unfollowed := true, recurses := true, loops := true, apart := false }
def FnExactLeafHoldsSaid : Prop := fnExactLeafHoldsRow.holds Try.pinned (OpenSpec.ofChange fnExactLeafHoldsSpec)

/-- ITS FALSE NEIGHBOUR: 'it returns false'. Refute it at one input. -/
def fnExactLeafHoldsWrong : ChangeSpec := { name := "fnExactLeafHolds", fn := fun _ => fun
  | [d1, d2, d3, d4] => { results := [.lit (.bool false)], args := [d1, d2, d3, d4] }
  | _ => none }
def FnExactLeafHoldsWrongFalsely : Prop := fnExactLeafHoldsRow.holds Try.pinned (OpenSpec.ofChange fnExactLeafHoldsWrong)

/-- 'laws.FnRequests': WHATEVER THE INPUT: true; the input reads as it did. -/
def fnRequestsSpec : ChangeSpec := { name := "fnRequests", fn := fun _ => fun
  | [d] => { results := [.lit (.bool true)], args := [d] }
  | _ => none }
def fnRequestsRow : OpenClaim := { program := "ytbfochojhmggfaa", sum := "c945a58fea39fcaecf9c6a85874e260027a87d65519e9a3fdd135dea75842ae1", func := "loop.example/g00594/laws.FnRequests", spec := "fnRequests", inPlace := ["slices.overlaps[loop.example/g00594/impl.Fact]"], unfollowed := true, recurses := true, apart := false }
def FnRequestsSaid : Prop := fnRequestsRow.holds Try.pinned (OpenSpec.ofChange fnRequestsSpec)

/-- ITS FALSE NEIGHBOUR: 'it returns false'. Refute it at one input. -/
def fnRequestsWrong : ChangeSpec := { name := "fnRequests", fn := fun _ => fun
  | [d] => { results := [.lit (.bool false)], args := [d] }
  | _ => none }
def FnRequestsWrongFalsely : Prop := fnRequestsRow.holds Try.pinned (OpenSpec.ofChange fnRequestsWrong)

/-- 'laws.FnExactEvalCond': WHATEVER THE INPUT: true; the input reads as it did. -/
def fnExactEvalCondSpec : ChangeSpec := { name := "fnExactEvalCond", fn := fun _ => fun
  | [d1, d2, d3, d4] => { results := [.lit (.bool true)], args := [d1, d2, d3, d4] }
  | _ => none }
def fnExactEvalCondRow : OpenClaim := { program := "ytbfochojhmggfaa", sum := "c945a58fea39fcaecf9c6a85874e260027a87d65519e9a3fdd135dea75842ae1", func := "loop.example/g00594/laws.FnExactEvalCond", spec := "fnExactEvalCond", unfollowed := true, recurses := true, loops := true, apart := false }
def FnExactEvalCondSaid : Prop := fnExactEvalCondRow.holds Try.pinned (OpenSpec.ofChange fnExactEvalCondSpec)

/-- ITS FALSE NEIGHBOUR: 'it returns false'. Refute it at one input. -/
def fnExactEvalCondWrong : ChangeSpec := { name := "fnExactEvalCond", fn := fun _ => fun
  | [d1, d2, d3, d4] => { results := [.lit (.bool false)], args := [d1, d2, d3, d4] }
  | _ => none }
def FnExactEvalCondWrongFalsely : Prop := fnExactEvalCondRow.holds Try.pinned (OpenSpec.ofChange fnExactEvalCondWrong)

/- THE SECOND FORM. 'bulk': how many values and letters a reading holds, each counted each time it is reached (what is shared counts as often as it is met; a slice's spare places count too). A statement '..UptoSaid' is the law's where the arguments, and the package variables that the reading takes, are together of bulk at most 1048576: NARROWER than '..Said'. Prove '..Said' where nothing that the law and all that it calls make is longer than what came in: it says more and counts as full. Else prove '..UptoSaid'. A law counts once. -/
mutual
def uptoBulk {H : Type} : DataW H → Nat
  | .lit (.string bytes) => bytes.length + 1
  | .lit _ => 1
  | .nil => 1
  | .ptr d => uptoBulk d + 1
  | .slice elems spare => uptoBulkAll elems + uptoBulkAll spare + 1
  | .agg parts => uptoBulkAll parts + 1
  | .iface _ d => uptoBulk d + 1
  | .map entries => uptoBulkEntries entries + 1
  | .held _ => 1
def uptoBulkAll {H : Type} : List (DataW H) → Nat
  | [] => 0
  | d :: r => uptoBulk d + uptoBulkAll r
def uptoBulkEntries {H : Type} : List (Lit × DataW H) → Nat
  | [] => 0
  | x :: r => uptoBulkEntry x + uptoBulkEntries r
def uptoBulkEntry {H : Type} : Lit × DataW H → Nat
  | (.string bytes, d) => bytes.length + uptoBulk d + 1
  | (_, d) => uptoBulk d + 1
 end
def uptoSmall : (H : Type) → List (DataW H) → Bool := fun _ ds => decide (uptoBulkAll ds ≤ 1048576)
def OpenSpec.upto (s : _root_.Go.ChangeSpec) : _root_.Go.OpenSpec := { _root_.Go.OpenSpec.ofChange s with cond := some uptoSmall }

/-- 'laws.FnExactDependsOn', WHERE WHAT IT READS IS OF BULK AT MOST 1048576: true; the input reads as it did. -/
def fnExactDependsOnUptoRow : OpenClaim := { program := "ytbfochojhmggfaa", sum := "c945a58fea39fcaecf9c6a85874e260027a87d65519e9a3fdd135dea75842ae1", func := "loop.example/g00594/laws.FnExactDependsOn", spec := "fnExactDependsOn", recurses := true, apart := false, narrowed := true }
def FnExactDependsOnUptoSaid : Prop := fnExactDependsOnUptoRow.holds Try.pinned (OpenSpec.upto fnExactDependsOnSpec)

/-- 'laws.FnExactConflictsIn', WHERE WHAT IT READS IS OF BULK AT MOST 1048576: true; the input reads as it did. -/
def fnExactConflictsInUptoRow : OpenClaim := { program := "ytbfochojhmggfaa", sum := "c945a58fea39fcaecf9c6a85874e260027a87d65519e9a3fdd135dea75842ae1", func := "loop.example/g00594/laws.FnExactConflictsIn", spec := "fnExactConflictsIn", unfollowed := true, recurses := true, loops := true, apart := false, narrowed := true }
def FnExactConflictsInUptoSaid : Prop := fnExactConflictsInUptoRow.holds Try.pinned (OpenSpec.upto fnExactConflictsInSpec)

/-- 'laws.FnExactIsIdle', WHERE WHAT IT READS IS OF BULK AT MOST 1048576: true; the input reads as it did. -/
def fnExactIsIdleUptoRow : OpenClaim := { program := "ytbfochojhmggfaa", sum := "c945a58fea39fcaecf9c6a85874e260027a87d65519e9a3fdd135dea75842ae1", func := "loop.example/g00594/laws.FnExactIsIdle", spec := "fnExactIsIdle", unfollowed := true, recurses := true, loops := true, apart := false, narrowed := true }
def FnExactIsIdleUptoSaid : Prop := fnExactIsIdleUptoRow.holds Try.pinned (OpenSpec.upto fnExactIsIdleSpec)

/-- 'laws.FnExactIsSafer', WHERE WHAT IT READS IS OF BULK AT MOST 1048576: true; the input reads as it did. -/
def fnExactIsSaferUptoRow : OpenClaim := { program := "ytbfochojhmggfaa", sum := "c945a58fea39fcaecf9c6a85874e260027a87d65519e9a3fdd135dea75842ae1", func := "loop.example/g00594/laws.FnExactIsSafer", spec := "fnExactIsSafer", unfollowed := true, recurses := true, loops := true, apart := false, narrowed := true }
def FnExactIsSaferUptoSaid : Prop := fnExactIsSaferUptoRow.holds Try.pinned (OpenSpec.upto fnExactIsSaferSpec)

/-- 'laws.FnDiagrams', WHERE WHAT IT READS IS OF BULK AT MOST 1048576: true; the input reads as it did. -/
def fnDiagramsUptoRow : OpenClaim := { program := "ytbfochojhmggfaa", sum := "c945a58fea39fcaecf9c6a85874e260027a87d65519e9a3fdd135dea75842ae1", func := "loop.example/g00594/laws.FnDiagrams", spec := "fnDiagrams", recurses := true, apart := false, narrowed := true }
def FnDiagramsUptoSaid : Prop := fnDiagramsUptoRow.holds Try.pinned (OpenSpec.upto fnDiagramsSpec)

/-- 'laws.FnExactPublishEpoch', WHERE WHAT IT READS IS OF BULK AT MOST 1048576: true; the input reads as it did. -/
def fnExactPublishEpochUptoRow : OpenClaim := { program := "ytbfochojhmggfaa", sum := "c945a58fea39fcaecf9c6a85874e260027a87d65519e9a3fdd135dea75842ae1", func := "loop.example/g00594/laws.FnExactPublishEpoch", spec := "fnExactPublishEpoch", unfollowed := true, recurses := true, loops := true, apart := false, narrowed := true }
def FnExactPublishEpochUptoSaid : Prop := fnExactPublishEpochUptoRow.holds Try.pinned (OpenSpec.upto fnExactPublishEpochSpec)

/-- 'laws.FnExactCompileFor', WHERE WHAT IT READS IS OF BULK AT MOST 1048576: true; the input reads as it did. -/
def fnExactCompileForUptoRow : OpenClaim := { program := "ytbfochojhmggfaa", sum := "c945a58fea39fcaecf9c6a85874e260027a87d65519e9a3fdd135dea75842ae1", func := "loop.example/g00594/laws.FnExactCompileFor", spec := "fnExactCompileFor", unfollowed := true, recurses := true, loops := true, apart := false, narrowed := true }
def FnExactCompileForUptoSaid : Prop := fnExactCompileForUptoRow.holds Try.pinned (OpenSpec.upto fnExactCompileForSpec)

/-- 'laws.FnExactLeafHolds', WHERE WHAT IT READS IS OF BULK AT MOST 1048576: true; the input reads as it did. -/
def fnExactLeafHoldsUptoRow : OpenClaim := { program := "ytbfochojhmggfaa", sum := "c945a58fea39fcaecf9c6a85874e260027a87d65519e9a3fdd135dea75842ae1", func := "loop.example/g00594/laws.FnExactLeafHolds", spec := "fnExactLeafHolds", unfollowed := true, recurses := true, loops := true, apart := false, narrowed := true }
def FnExactLeafHoldsUptoSaid : Prop := fnExactLeafHoldsUptoRow.holds Try.pinned (OpenSpec.upto fnExactLeafHoldsSpec)

/-- 'laws.FnRequests', WHERE WHAT IT READS IS OF BULK AT MOST 1048576: true; the input reads as it did. -/
def fnRequestsUptoRow : OpenClaim := { program := "ytbfochojhmggfaa", sum := "c945a58fea39fcaecf9c6a85874e260027a87d65519e9a3fdd135dea75842ae1", func := "loop.example/g00594/laws.FnRequests", spec := "fnRequests", inPlace := ["slices.overlaps[loop.example/g00594/impl.Fact]"], unfollowed := true, recurses := true, apart := false, narrowed := true }
def FnRequestsUptoSaid : Prop := fnRequestsUptoRow.holds Try.pinned (OpenSpec.upto fnRequestsSpec)

/-- 'laws.FnExactEvalCond', WHERE WHAT IT READS IS OF BULK AT MOST 1048576: true; the input reads as it did. -/
def fnExactEvalCondUptoRow : OpenClaim := { program := "ytbfochojhmggfaa", sum := "c945a58fea39fcaecf9c6a85874e260027a87d65519e9a3fdd135dea75842ae1", func := "loop.example/g00594/laws.FnExactEvalCond", spec := "fnExactEvalCond", unfollowed := true, recurses := true, loops := true, apart := false, narrowed := true }
def FnExactEvalCondUptoSaid : Prop := fnExactEvalCondUptoRow.holds Try.pinned (OpenSpec.upto fnExactEvalCondSpec)

end Rows
end Go.Proofs.Ytbfochojhmggfaa
