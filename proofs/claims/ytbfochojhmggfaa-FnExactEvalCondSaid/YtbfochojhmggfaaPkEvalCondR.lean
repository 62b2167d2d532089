/- FnExactEvalCond, for every input. Conditions: none beyond the row's own. -/
import Derived.Test.YtbfochojhmggfaaPkEvalCondP5
import Derived.Test.YtbfochojhmggfaaPkEvalCondQ2
import Derived.KernelRfl
import Derived.Test.YtbfochojhmggfaaShelf
import Derived.Test.YtbfochojhmggfaaRows
import Derived.WalkKit
import Derived.ProofKit
import Derived.OpenShut
import Derived.ShutString
import Derived.ChangeOld
import Derived.Below
import Derived.SizedLaws
set_option linter.unusedSimpArgs false
set_option linter.unusedVariables false
/- The tables are right. -/
namespace Go.AI
open Go Go.Proofs
theorem told_ok {f : FuncId} {args : List PV} {b : Map (List PV)} {m : Map Blk} {r : List PV × Map (List PV) × Map Blk} (_ : C.ok f = false) (h : C.ext f args b m = some r) : SoundAt C f args b m r := by
  replace h : told f args b m = some r := h
  unfold told at h
  split at h
  · exact told_sort (C := C) ⟨_, Try.func86, by kernel_rfl, by kernel_rfl⟩ Try.slices_Sort_int_none Try.slices_Sort_int h
  · exact told_compact (C := C) ⟨_, Try.func87, by kernel_rfl, by kernel_rfl⟩ Try.slices_Compact_int_empty Try.slices_Compact_int h
  · cases h
theorem types_ok : goods.all (fun t => tokB C good t && eqB C t) = true := by kernel_rfl
theorem funcs_ok : oks.all (fnOk C good) = true := by kernel_rfl
theorem ready : Ready C good := ready_of (gs := goods) (fs := oks) (fun t h => by simpa [good] using h) (fun f h => by simpa [C] using h) types_ok funcs_ok (fun _ => rfl) told_ok
theorem all_right : Sound C (call C) := right ready (by kernel_rfl)
end Go.AI
/- FnExactEvalCond, for every input: the row out of what the interpreter says of it. Conditions: none beyond the row's own. -/
namespace Go.Proofs.Ytbfochojhmggfaa.fnExactEvalCond
open Go Go.AI Go.ChangeShapes Go.WideShapes Go.ChangeAt Go.RowKit
open Go.ChangeMaps (open_string shut_string)
set_option linter.unusedVariables false
section
variable {H : Type} {enc : TypeId × Value → H} {w : World}
theorem fines_of : ∀ {l : List Tr} (_ : ∀ v ∈ l, v.fine), Tr.fines l
  | [], _ => by simp only [Tr.fines]
  | x :: l, h => by
    simp only [Tr.fines]
    exact ⟨h x (by simp), fines_of fun v hv => h v (by simp [hv])⟩
theorem tr_fine {o a b : Int} {l : List Tr} (hl : l.length < 9223372036854775808) (h : ∀ v ∈ l, v.fine) : (Tr.node o a b l).fine := by
  simp only [Tr.fine]
  exact ⟨hl, fines_of h⟩
theorem Incc_len (v : Inc) : (Inc.c v).length = 2 := rfl
theorem rd178 : ∀ n, Rd enc Try.prog w n 178 (fun ps => ∃ v : Inc, ps = Inc.c v ∧ (fun _ => True) v)
  | 0 => rd_zero
  | n + 1 => by
    intro fuel hf cs x h
    obtain ⟨hl, hfs⟩ := rd_field Try.underlying178 hf h
    have hl' : cs.length = 2 := hl.trans (by kernel_rfl)
    obtain ⟨p0, ⟨v0, rfl⟩, h0⟩ := hfs 0 _ rfl (s := 1) (rd_int Try.underlying3 n) (by kernel_rfl)
    obtain ⟨p1, ⟨v1, rfl⟩, h1⟩ := hfs 1 _ rfl (s := 1) (rd_int Try.underlying3 n) (by kernel_rfl)
    have j1 := join_last (o := 1) (s := 1) hl' h1
    have j0 := join_one (o := 0) (s := 1) (o' := 1) rfl h0 j1
    refine ⟨_, ⟨⟨v0, v1⟩, ?_, ?_⟩, j0⟩
    · rfl
    · trivial
theorem Fac_len (v : Fa) : (Fa.c v).length = 6 := rfl
theorem rd189 : ∀ n, Rd enc Try.prog w n 189 (fun ps => ∃ v : Fa, ps = Fa.c v ∧ (fun _ => True) v)
  | 0 => rd_zero
  | n + 1 => by
    intro fuel hf cs x h
    obtain ⟨hl, hfs⟩ := rd_field Try.underlying189 hf h
    have hl' : cs.length = 6 := hl.trans (by kernel_rfl)
    obtain ⟨p0, ⟨v0, rfl⟩, h0⟩ := hfs 0 _ rfl (s := 1) (rd_int Try.underlying3 n) (by kernel_rfl)
    obtain ⟨p1, ⟨v1, rfl⟩, h1⟩ := hfs 1 _ rfl (s := 1) (rd_int Try.underlying3 n) (by kernel_rfl)
    obtain ⟨p2, ⟨v2, rfl⟩, h2⟩ := hfs 2 _ rfl (s := 1) (rd_int Try.underlying3 n) (by kernel_rfl)
    obtain ⟨p3, ⟨v3, rfl⟩, h3⟩ := hfs 3 _ rfl (s := 1) (rd_int Try.underlying3 n) (by kernel_rfl)
    obtain ⟨p4, ⟨v4, rfl⟩, h4⟩ := hfs 4 _ rfl (s := 1) (rd_int Try.underlying3 n) (by kernel_rfl)
    obtain ⟨p5, ⟨v5, rfl⟩, h5⟩ := hfs 5 _ rfl (s := 1) (rd_int Try.underlying3 n) (by kernel_rfl)
    have j5 := join_last (o := 5) (s := 1) hl' h5
    have j4 := join_one (o := 4) (s := 1) (o' := 5) rfl h4 j5
    have j3 := join_one (o := 3) (s := 1) (o' := 4) rfl h3 j4
    have j2 := join_one (o := 2) (s := 1) (o' := 3) rfl h2 j3
    have j1 := join_one (o := 1) (s := 1) (o' := 2) rfl h1 j2
    have j0 := join_one (o := 0) (s := 1) (o' := 1) rfl h0 j1
    refine ⟨_, ⟨⟨v0, v1, v2, v3, v4, v5⟩, ?_, ?_⟩, j0⟩
    · rfl
    · trivial
theorem Trc_len (v : Tr) : (Tr.c v).length = 4 := by rw [Tr.c_eq]; rfl
theorem rd100 : ∀ n, Rd enc Try.prog w n 100 (fun ps => ∃ v : Tr, ps = Tr.c v ∧ (Tr.fine) v)
  | 0 => rd_zero
  | n + 1 => by
    intro fuel hf cs x h
    obtain ⟨hl, hfs⟩ := rd_field Try.underlying100 hf h
    have hl' : cs.length = 4 := hl.trans (by kernel_rfl)
    obtain ⟨p0, ⟨v0, rfl⟩, h0⟩ := hfs 0 _ rfl (s := 1) (rd_int Try.underlying3 n) (by kernel_rfl)
    obtain ⟨p1, ⟨v1, rfl⟩, h1⟩ := hfs 1 _ rfl (s := 1) (rd_int Try.underlying3 n) (by kernel_rfl)
    obtain ⟨p2, ⟨v2, rfl⟩, h2⟩ := hfs 2 _ rfl (s := 1) (rd_int Try.underlying3 n) (by kernel_rfl)
    obtain ⟨p3, ⟨v3, rfl, g3, l3⟩, h3⟩ := hfs 3 _ rfl (s := 1) ((rd_slice (c := Tr.c) (sz := 4) Try.underlying98 (by kernel_rfl) (fun v => Trc_len v) (rd100 n)).le (by omega)) (by kernel_rfl)
    have j3 := join_last (o := 3) (s := 1) hl' h3
    have j2 := join_one (o := 2) (s := 1) (o' := 3) rfl h2 j3
    have j1 := join_one (o := 1) (s := 1) (o' := 2) rfl h1 j2
    have j0 := join_one (o := 0) (s := 1) (o' := 1) rfl h0 j1
    refine ⟨_, ⟨.node v0 v1 v2 v3, ?_, ?_⟩, j0⟩
    · simp [Tr.c, Tr.cs_map]
    · exact tr_fine l3 g3
theorem Rqc_len (v : Rq) : (Rq.c v).length = 6 := rfl
theorem rd102 : ∀ n, Rd enc Try.prog w n 102 (fun ps => ∃ v : Rq, ps = Rq.c v ∧ (fun _ => True) v)
  | 0 => rd_zero
  | n + 1 => by
    intro fuel hf cs x h
    obtain ⟨hl, hfs⟩ := rd_field Try.underlying102 hf h
    have hl' : cs.length = 6 := hl.trans (by kernel_rfl)
    obtain ⟨p0, ⟨v0, rfl⟩, h0⟩ := hfs 0 _ rfl (s := 1) (rd_int Try.underlying3 n) (by kernel_rfl)
    obtain ⟨p1, ⟨v1, rfl⟩, h1⟩ := hfs 1 _ rfl (s := 1) (rd_int Try.underlying3 n) (by kernel_rfl)
    obtain ⟨p2, ⟨v2, rfl⟩, h2⟩ := hfs 2 _ rfl (s := 1) (rd_int Try.underlying3 n) (by kernel_rfl)
    obtain ⟨p3, ⟨v3, rfl⟩, h3⟩ := hfs 3 _ rfl (s := 1) (rd_int Try.underlying3 n) (by kernel_rfl)
    obtain ⟨p4, ⟨v4, rfl⟩, h4⟩ := hfs 4 _ rfl (s := 1) (rd_int Try.underlying3 n) (by kernel_rfl)
    obtain ⟨p5, ⟨v5, rfl⟩, h5⟩ := hfs 5 _ rfl (s := 1) (rd_int Try.underlying3 n) (by kernel_rfl)
    have j5 := join_last (o := 5) (s := 1) hl' h5
    have j4 := join_one (o := 4) (s := 1) (o' := 5) rfl h4 j5
    have j3 := join_one (o := 3) (s := 1) (o' := 4) rfl h3 j4
    have j2 := join_one (o := 2) (s := 1) (o' := 3) rfl h2 j3
    have j1 := join_one (o := 1) (s := 1) (o' := 2) rfl h1 j2
    have j0 := join_one (o := 0) (s := 1) (o' := 1) rfl h0 j1
    refine ⟨_, ⟨⟨v0, v1, v2, v3, v4, v5⟩, ?_, ?_⟩, j0⟩
    · rfl
    · trivial
end
theorem own : ownKnob Try.prog.godebug = none := by kernel_rfl
theorem laidOut : laidOutB Try.prog = true := by kernel_rfl
set_option maxRecDepth 100000 in
theorem lifted (os : Os) (started : os.Started) (H : Type) (enc : TypeId × Value → H) :
    ReturnsInHanded {} Try.checked os 12 .any (Rows.fnExactEvalCondSpec.pre6 enc Try.prog Try.f12 Rows.fnExactEvalCondRow.domain false) (Rows.fnExactEvalCondSpec.post enc Try.prog Try.f12 false true false false) := by
  refine returnsInHanded_of_change_sized (C := Try.checked) own started (by kernel_rfl) Try.func12
    (ChangeSpec.witness6 (enc := enc) (C := Try.checked) false ⟨#[], #[.slice none 0 0, .slice none 0 0, .agg #[.int .i64 0, .int .i64 0, .int .i64 0, .slice none 0 0], .agg #[.int .i64 0, .int .i64 0, .int .i64 0, .int .i64 0, .int .i64 0, .int .i64 0]], []⟩ 8 (by kernel_rfl) (by kernel_rfl) (by kernel_rfl) (by kernel_rfl)) ?_
  intro W base args ds gs before hval0 hW hcnd hsz0 _
  have hval : ∀ (j : Nat) t v, Try.f12.params[j]? = some t → args[j]? = some v → Value.okWide Try.prog W .any base t v := hval0
  have hW' := hW
  obtain ⟨p, q, hA0, hV, rfl, hfz, hnd⟩ := hW
  have hA : DataW.TrodAll enc Try.prog W 0 (fun _ => true) true Try.f12.params.toList args.toList ds p := hA0
  rw [Try.params12] at hA hval
  obtain ⟨v0, vs0, d0, ds0, p0, q0, hargs, rfl, rfl, h0, r0⟩ := trodAll_cons hA
  obtain ⟨v1, vs1, d1, ds1, p1, q1, rfl, rfl, rfl, h1, r1⟩ := trodAll_cons r0
  obtain ⟨v2, vs2, d2, ds2, p2, q2, rfl, rfl, rfl, h2, r2⟩ := trodAll_cons r1
  obtain ⟨v3, vs3, d3, ds3, p3, q3, rfl, rfl, rfl, h3, r3⟩ := trodAll_cons r2
  obtain ⟨rfl, rfl, rfl⟩ := trodAll_nil r3
  obtain rfl : args = #[v0, v1, v2, v3] := by cases args; simp_all
  obtain ⟨rfl, rfl⟩ := trodVars_none hV
  have k0 := h0
  have lt0 : ∀ x ∈ p0, x.block < W.heap.size := by obtain ⟨m, hm⟩ := k0; exact DataW.trod_lt m _ _ _ hm
  obtain ⟨a0, len0, cap0, rfl⟩ := okWide_slice Try.underlying71 (hval 0 71 v0 rfl rfl)
  obtain ⟨ps0, ⟨x0, rfl, g0, l0⟩, R0⟩ : ∃ ps, (∃ l : List Inc, ps = [PV.arr 2 (l.map Inc.c)] ∧ (∀ v ∈ l, (fun _ => True) v) ∧ l.length < 9223372036854775808) ∧ All2 (KR (here W) W) ps (Value.slice a0 len0 cap0).cells.toList := by obtain ⟨f, hf⟩ := h0; exact ((rd_slice (c := Inc.c) (sz := 2) Try.underlying71 (by kernel_rfl) (fun v => Incc_len v) (rd178 f)).le (by omega)) f (Nat.le_refl _) _ _ hf
  have k1 := h1
  have lt1 : ∀ x ∈ p1, x.block < W.heap.size := by obtain ⟨m, hm⟩ := k1; exact DataW.trod_lt m _ _ _ hm
  obtain ⟨a1, len1, cap1, rfl⟩ := okWide_slice Try.underlying97 (hval 1 97 v1 rfl rfl)
  obtain ⟨ps1, ⟨x1, rfl, g1, l1⟩, R1⟩ : ∃ ps, (∃ l : List Fa, ps = [PV.arr 6 (l.map Fa.c)] ∧ (∀ v ∈ l, (fun _ => True) v) ∧ l.length < 9223372036854775808) ∧ All2 (KR (here W) W) ps (Value.slice a1 len1 cap1).cells.toList := by obtain ⟨f, hf⟩ := h1; exact ((rd_slice (c := Fa.c) (sz := 6) Try.underlying97 (by kernel_rfl) (fun v => Fac_len v) (rd189 f)).le (by omega)) f (Nat.le_refl _) _ _ hf
  have k2 := h2
  have lt2 : ∀ x ∈ p2, x.block < W.heap.size := by obtain ⟨m, hm⟩ := k2; exact DataW.trod_lt m _ _ _ hm
  obtain ⟨c2, rfl, _⟩ := okWide_struct Try.underlying100 (hval 2 100 v2 rfl rfl)
  obtain ⟨ps2, ⟨x2, rfl, g2⟩, R2⟩ : ∃ ps, (∃ v : Tr, ps = Tr.c v ∧ (Tr.fine) v) ∧ All2 (KR (here W) W) ps c2.toList := by obtain ⟨f, hf⟩ := h2; exact rd100 f f (Nat.le_refl _) _ _ hf
  have k3 := h3
  have lt3 : ∀ x ∈ p3, x.block < W.heap.size := by obtain ⟨m, hm⟩ := k3; exact DataW.trod_lt m _ _ _ hm
  obtain ⟨c3, rfl, _⟩ := okWide_struct Try.underlying102 (hval 3 102 v3 rfl rfl)
  obtain ⟨ps3, ⟨x3, rfl, g3⟩, R3⟩ : ∃ ps, (∃ v : Rq, ps = Rq.c v ∧ (fun _ => True) v) ∧ All2 (KR (here W) W) ps c3.toList := by obtain ⟨f, hf⟩ := h3; exact rd102 f f (Nat.le_refl _) _ _ hf
  clear hA0 hval0 hsz0
  refine (law_ends (C := C) (w := W) (vs := #[_, _, _, _]) (all_right (FnExactEvalCond_c x0 x1 x2 x3 l0 l1 g2)) ⟨(arg_one R0), (arg_one R1), (arg_agg R2), (arg_agg R3), trivial⟩).mono fun e W' ⟨he, bel⟩ => ?_
  subst he
  exact ⟨_, rfl, _, _, _, [], _, [], hW', trodAll_mk1 (shut_bool Try.underlying4 _), (trodAll_cons_mk (Below.trod laidOut (by kernel_rfl) (of_decide_eq_true (by kernel_rfl)) k0 bel lt0) (trodAll_cons_mk (Below.trod laidOut (by kernel_rfl) (of_decide_eq_true (by kernel_rfl)) k1 bel lt1) (trodAll_cons_mk (Below.trod laidOut (by kernel_rfl) (of_decide_eq_true (by kernel_rfl)) k2 bel lt2) (trodAll_cons_mk (Below.trod laidOut (by kernel_rfl) (of_decide_eq_true (by kernel_rfl)) k3 bel lt3) trodAll_mk0)))), rfl, bel.frame _, fun h => by cases h⟩
set_option maxHeartbeats 8000000 in
theorem closed : joinedFacts Try.pinned.checked.prog 12 Try.f12 Rows.fnExactEvalCondSpec Rows.fnExactEvalCondRow = true := by
  unfold joinedFacts
  simp only [Bool.and_eq_true]
  repeat' apply And.intro
  all_goals as_aux_lemma => kernel_rfl
theorem over : Rows.fnExactEvalCondRow.holds Try.pinned (OpenSpec.ofChange Rows.fnExactEvalCondSpec) :=
  OpenClaim.holds_of_wide 12 Try.f12 rfl rfl rfl rfl rfl rfl rfl ⟨rfl, rfl, rfl, rfl, rfl⟩ rfl rfl rfl rfl rfl (by kernel_rfl) Try.func12 closed
    (of_decide_eq_true (by kernel_rfl)) (by unfold Func.isWrapper; first | (rw [if_pos (by decide +kernel)]; kernel_rfl) | (rw [if_neg (by decide +kernel)]; exact ⟨rfl, rfl⟩))
    (fun os started H enc _ => lifted os started H enc)
theorem proved : Rows.FnExactEvalCondSaid := over
end Go.Proofs.Ytbfochojhmggfaa.fnExactEvalCond
namespace Go.Proofs.Ytbfochojhmggfaa
/-- The row, under a short name, for the claim. -/
theorem fnExactEvalCond_holds : Rows.FnExactEvalCondSaid := fnExactEvalCond.proved
end Go.Proofs.Ytbfochojhmggfaa
