/- FnExactIsNeeded, for every input. Conditions: none beyond the row's own. -/
import Derived.Test.YtbfochojhmggfaaGreatAiT
import Derived.Test.YtbfochojhmggfaaGreatAiQ2
import Derived.Test.YtbfochojhmggfaaGreatRows
import Derived.WalkKit
import Derived.ProofKit
import Derived.OpenShut
import Derived.ShutString
import Derived.ChangeOld
import Derived.Below
import Derived.SizedLaws
import Derived.KernelRfl
set_option linter.unusedSimpArgs false
set_option linter.unusedVariables false
/- The law of IsNeeded. -/
namespace Go.AI
open Go Go.Proofs Rl
attribute [local congr] bind_left map_left guardOn_congr condOn_congr
attribute [local simp] call_pure start run_seq run_region run_draw arrange run_cond run_block exec_ret exec_exit exec_skip ite_bind ite_map opsW_nil opsW_cons opsW_guard doOp_move doOp_assign doOp_pick doOp_load doOp_nilCheck doOp_fieldAddr doOp_indexAddr doOp_index doOp_slice doOp_binOp doOp_not doOp_neg doOp_convert doOp_extract doOp_build doOp_makeFunc doOp_len doOp_min doOp_max doOp_field doOp_alloc doOp_box doOp_store doOp_buildSlice doOp_makeSlice doOp_append doOp_call cutMk ret tidy sift closed okCell cellsT headOf
set_option maxRecDepth 100000
set_option maxHeartbeats 4000000
set_option linter.unusedSimpArgs false
set_option linter.unusedVariables false
theorem FnExactIsNeeded_c (l : List Inc) (s : List Fa) (p : Po) (q : Rq) (k : List Int) (i : Int) (hl : l.length < 9223372036854775808) (hs : s.length < 9223372036854775808) (hf : p.fine) (hk : k.length < 9223372036854775808) : call C 14 [incs l, fas s, .agg p.c, .agg q.c, .arr 1 (intRow k), .int .i64 i] [] [] = some ([.bool true], [], []) := by
  have hil : (intRow k).length = k.length := by simp [intRow]
  by_cases h0 : (1048576 : Int) < k.length
  · simp only [incs, fas, Rq.c, Po.c]
    rw [call_pure C (f := 14) (fn := Tryz.f14) (C_P ▸ Tryz.func14) rfl rfl]
    simp (config := { maxSteps := 10000000 }) [C_ty, ty3, ty4, ty22, ty23, ty24, ty26, ty28, ty32, ty34, ty36, ty38, ty40, ty42, ty130, ty132, ty134, ty136, K15, K16, K17, K19, K20, K21, K22, K24, K25, K26, K27, K80, K82, K83, C_own, own, C_order, order, hil, h0] <;> (first | omega | (simp_all; done) | skip)
  have z1 := szIncludesS_c l 1048576 (by omega) (by omega) hl
  by_cases h1 : (1048576 : Int) < l.length
  · rw [if_pos h1] at z1
    simp only [incs, fas, Rq.c, Po.c]
    rw [call_pure C (f := 14) (fn := Tryz.f14) (C_P ▸ Tryz.func14) rfl rfl]
    simp (config := { maxSteps := 10000000 }) [C_ty, ty3, ty4, ty22, ty23, ty24, ty26, ty28, ty32, ty34, ty36, ty38, ty40, ty42, ty130, ty132, ty134, ty136, K15, K16, K17, K19, K20, K21, K22, K24, K25, K26, K27, K80, K82, K83, C_own, own, C_order, order, hil, h0, z1] <;> (first | omega | (simp_all; done) | skip)
  rw [if_neg h1] at z1
  obtain ⟨n1, k1⟩ : ∃ n : Int, (1048576 : Int) - l.length = n := ⟨_, rfl⟩
  rw [k1] at z1
  have h1' : ¬ n1 < 0 := by omega
  have z2 := szFactS_c s n1 (by omega) (by omega) hs
  by_cases h2 : n1 < s.length
  · rw [if_pos h2] at z2
    simp only [incs, fas, Rq.c, Po.c]
    rw [call_pure C (f := 14) (fn := Tryz.f14) (C_P ▸ Tryz.func14) rfl rfl]
    simp (config := { maxSteps := 10000000 }) [C_ty, ty3, ty4, ty22, ty23, ty24, ty26, ty28, ty32, ty34, ty36, ty38, ty40, ty42, ty130, ty132, ty134, ty136, K15, K16, K17, K19, K20, K21, K22, K24, K25, K26, K27, K80, K82, K83, C_own, own, C_order, order, hil, h0, z1, h1', z2] <;> (first | omega | (simp_all; done) | skip)
  rw [if_neg h2] at z2
  obtain ⟨n2, k2⟩ : ∃ n : Int, n1 - s.length = n := ⟨_, rfl⟩
  rw [k2] at z2
  have h2' : ¬ n2 < 0 := by omega
  have z3 := szPolicy_c p hf n2 (by omega) (by omega)
  by_cases h3 : n2 < p.size
  · rw [if_pos h3] at z3
    simp only [incs, fas, Rq.c, Po.c] at z3 ⊢
    rw [call_pure C (f := 14) (fn := Tryz.f14) (C_P ▸ Tryz.func14) rfl rfl]
    simp (config := { maxSteps := 10000000 }) [C_ty, ty3, ty4, ty22, ty23, ty24, ty26, ty28, ty32, ty34, ty36, ty38, ty40, ty42, ty130, ty132, ty134, ty136, K15, K16, K17, K19, K20, K21, K22, K24, K25, K26, K27, K80, K82, K83, C_own, own, C_order, order, hil, h0, z1, h1', z2, h2', z3] <;> (first | omega | (simp_all; done) | skip)
  rw [if_neg h3] at z3
  obtain ⟨n3, k3⟩ : ∃ n : Int, n2 - p.size = n := ⟨_, rfl⟩
  rw [k3] at z3
  have h3' : ¬ n3 < 0 := by omega
  have hpl := p.size_len
  have t1 := toIncludesS_c l (by omega)
  have t2 := toFactS_c s (by omega)
  have t3 := toPolicy_c p (by omega)
  have t4 := toRequest_c q
  have e1 := eqIncludesS_c l (by omega)
  have e2 := eqFactS_c s (by omega)
  have e3 := eqPolicy_c p hf
  have t5 := toIntS_c k (by omega)
  have e5 := eqIntS_c k (by omega)
  have hx : ∀ r ∈ p.rs, r.x.size < 4611686018427387904 := fun r hr => by have := Po.size_mem hr; omega
  have w := sIsNeeded_c l s p q k i (by omega) (by omega) (by omega) hx (by omega)
  have g := IsNeeded_c l s p q k i (by omega) (by omega) (by omega) hx (by omega)
  generalize isNeeded l s p q k i = b at w g
  simp only [incs, fas, Rq.c, Po.c] at z1 z2 z3 t1 t2 t3 t4 e1 e2 e3 w g ⊢
  rw [call_pure C (f := 14) (fn := Tryz.f14) (C_P ▸ Tryz.func14) rfl rfl]
  simp (config := { maxSteps := 10000000 }) [C_ty, ty3, ty4, ty22, ty23, ty24, ty26, ty28, ty32, ty34, ty36, ty38, ty40, ty42, ty130, ty132, ty134, ty136, K15, K16, K17, K19, K20, K21, K22, K24, K25, K26, K27, K80, K82, K83, C_own, own, C_order, order, hil, h0, z1, h1', z2, h2', z3, h3', t1, t2, t3, t4, t5, e1, e2, e3, e5, w, g] <;> (first | omega | (simp_all; done) | skip)
end Go.AI
/- FnExactIsNeeded, for every input: the row out of what the interpreter says of it. Conditions: none beyond the row's own. -/
namespace Go.Proofs.YtbfochojhmggfaaGreat.fnExactIsNeeded
open Go Go.AI Go.ChangeShapes Go.WideShapes Go.ChangeAt Go.RowKit
open Go.ChangeMaps (open_string shut_string)
set_option linter.unusedVariables false
section
variable {H : Type} {enc : TypeId × Value → H} {w : World}
theorem rd_intG {P : Program} {t : TypeId} (ht : P.underlying t = some (.int .i64)) (n : Nat) : Rd enc P w n t (fun ps => ∃ v : Int, ps = (fun x : Int => [PV.int .i64 x]) v ∧ (fun _ => True) v) := by
  intro fuel hf cs x h
  obtain ⟨ps, ⟨v, rfl⟩, hr⟩ := rd_int ht n fuel hf cs x h
  exact ⟨_, ⟨v, rfl, trivial⟩, hr⟩
theorem arg_int {C : Cfg} {k : IntKind} (a : Int) : VR C κ0 (here w) (memOf [] []) w (.int k a) (.int k a) := by simp only [VR, VA, V1, KR]
theorem fines_of : ∀ {l : List Tr} (_ : ∀ v ∈ l, v.fine), Tr.fines l
  | [], _ => by simp only [Tr.fines]
  | x :: l, h => by
    simp only [Tr.fines]
    exact ⟨h x (by simp), fines_of fun v hv => h v (by simp [hv])⟩
theorem tr_fine {o a b : Int} {l : List Tr} (hl : l.length < 9223372036854775808) (h : ∀ v ∈ l, v.fine) : (Tr.node o a b l).fine := by
  simp only [Tr.fine]
  exact ⟨hl, fines_of h⟩
theorem Incc_len (v : Inc) : (Inc.c v).length = 2 := rfl
theorem rd132 : ∀ n, Rd enc Tryz.prog w n 132 (fun ps => ∃ v : Inc, ps = Inc.c v ∧ (fun _ => True) v)
  | 0 => rd_zero
  | n + 1 => by
    intro fuel hf cs x h
    obtain ⟨hl, hfs⟩ := rd_field Tryz.underlying132 hf h
    have hl' : cs.length = 2 := hl.trans (by kernel_rfl)
    obtain ⟨p0, ⟨v0, rfl⟩, h0⟩ := hfs 0 _ rfl (s := 1) (rd_int Tryz.underlying3 n) (by kernel_rfl)
    obtain ⟨p1, ⟨v1, rfl⟩, h1⟩ := hfs 1 _ rfl (s := 1) (rd_int Tryz.underlying3 n) (by kernel_rfl)
    have j1 := join_last (o := 1) (s := 1) hl' h1
    have j0 := join_one (o := 0) (s := 1) (o' := 1) rfl h0 j1
    refine ⟨_, ⟨⟨v0, v1⟩, ?_, ?_⟩, j0⟩
    · rfl
    · trivial
theorem Fac_len (v : Fa) : (Fa.c v).length = 6 := rfl
theorem rd136 : ∀ n, Rd enc Tryz.prog w n 136 (fun ps => ∃ v : Fa, ps = Fa.c v ∧ (fun _ => True) v)
  | 0 => rd_zero
  | n + 1 => by
    intro fuel hf cs x h
    obtain ⟨hl, hfs⟩ := rd_field Tryz.underlying136 hf h
    have hl' : cs.length = 6 := hl.trans (by kernel_rfl)
    obtain ⟨p0, ⟨v0, rfl⟩, h0⟩ := hfs 0 _ rfl (s := 1) (rd_int Tryz.underlying3 n) (by kernel_rfl)
    obtain ⟨p1, ⟨v1, rfl⟩, h1⟩ := hfs 1 _ rfl (s := 1) (rd_int Tryz.underlying3 n) (by kernel_rfl)
    obtain ⟨p2, ⟨v2, rfl⟩, h2⟩ := hfs 2 _ rfl (s := 1) (rd_int Tryz.underlying3 n) (by kernel_rfl)
    obtain ⟨p3, ⟨v3, rfl⟩, h3⟩ := hfs 3 _ rfl (s := 1) (rd_int Tryz.underlying3 n) (by kernel_rfl)
    obtain ⟨p4, ⟨v4, rfl⟩, h4⟩ := hfs 4 _ rfl (s := 1) (rd_int Tryz.underlying3 n) (by kernel_rfl)
    obtain ⟨p5, ⟨v5, rfl⟩, h5⟩ := hfs 5 _ rfl (s := 1) (rd_int Tryz.underlying3 n) (by kernel_rfl)
    have j5 := join_last (o := 5) (s := 1) hl' h5
    have j4 := join_one (o := 4) (s := 1) (o' := 5) rfl h4 j5
    have j3 := join_one (o := 3) (s := 1) (o' := 4) rfl h3 j4
    have j2 := join_one (o := 2) (s := 1) (o' := 3) rfl h2 j3
    have j1 := join_one (o := 1) (s := 1) (o' := 2) rfl h1 j2
    have j0 := join_one (o := 0) (s := 1) (o' := 1) rfl h0 j1
    refine ⟨_, ⟨⟨v0, v1, v2, v3, v4, v5⟩, ?_, ?_⟩, j0⟩
    · rfl
    · trivial
theorem Trc_len (v : Tr) : (Tr.c v).length = 4 := by rw [Tr.c_eq]; rfl
theorem rd88 : ∀ n, Rd enc Tryz.prog w n 88 (fun ps => ∃ v : Tr, ps = Tr.c v ∧ (Tr.fine) v)
  | 0 => rd_zero
  | n + 1 => by
    intro fuel hf cs x h
    obtain ⟨hl, hfs⟩ := rd_field Tryz.underlying88 hf h
    have hl' : cs.length = 4 := hl.trans (by kernel_rfl)
    obtain ⟨p0, ⟨v0, rfl⟩, h0⟩ := hfs 0 _ rfl (s := 1) (rd_int Tryz.underlying3 n) (by kernel_rfl)
    obtain ⟨p1, ⟨v1, rfl⟩, h1⟩ := hfs 1 _ rfl (s := 1) (rd_int Tryz.underlying3 n) (by kernel_rfl)
    obtain ⟨p2, ⟨v2, rfl⟩, h2⟩ := hfs 2 _ rfl (s := 1) (rd_int Tryz.underlying3 n) (by kernel_rfl)
    obtain ⟨p3, ⟨v3, rfl, g3, l3⟩, h3⟩ := hfs 3 _ rfl (s := 1) ((rd_slice (c := Tr.c) (sz := 4) Tryz.underlying86 (by kernel_rfl) (fun v => Trc_len v) (rd88 n)).le (by omega)) (by kernel_rfl)
    have j3 := join_last (o := 3) (s := 1) hl' h3
    have j2 := join_one (o := 2) (s := 1) (o' := 3) rfl h2 j3
    have j1 := join_one (o := 1) (s := 1) (o' := 2) rfl h1 j2
    have j0 := join_one (o := 0) (s := 1) (o' := 1) rfl h0 j1
    refine ⟨_, ⟨.node v0 v1 v2 v3, ?_, ?_⟩, j0⟩
    · simp [Tr.c, Tr.cs_map]
    · exact tr_fine l3 g3
theorem Ruc_len (v : Ru) : (Ru.c v).length = 7 := rfl
theorem rd189 : ∀ n, Rd enc Tryz.prog w n 189 (fun ps => ∃ v : Ru, ps = Ru.c v ∧ (fun r : Ru => r.x.fine) v)
  | 0 => rd_zero
  | n + 1 => by
    intro fuel hf cs x h
    obtain ⟨hl, hfs⟩ := rd_field Tryz.underlying189 hf h
    have hl' : cs.length = 7 := hl.trans (by kernel_rfl)
    obtain ⟨p0, ⟨v0, rfl⟩, h0⟩ := hfs 0 _ rfl (s := 1) (rd_int Tryz.underlying3 n) (by kernel_rfl)
    obtain ⟨p1, ⟨v1, rfl⟩, h1⟩ := hfs 1 _ rfl (s := 1) (rd_int Tryz.underlying3 n) (by kernel_rfl)
    obtain ⟨p2, ⟨v2, rfl⟩, h2⟩ := hfs 2 _ rfl (s := 1) (rd_int Tryz.underlying3 n) (by kernel_rfl)
    obtain ⟨p3, ⟨v3, rfl, g3⟩, h3⟩ := hfs 3 _ rfl (s := 4) (rd88 n) (by kernel_rfl)
    have j3 := join_last (o := 3) (s := 4) hl' h3
    have j2 := join_one (o := 2) (s := 1) (o' := 3) rfl h2 j3
    have j1 := join_one (o := 1) (s := 1) (o' := 2) rfl h1 j2
    have j0 := join_one (o := 0) (s := 1) (o' := 1) rfl h0 j1
    refine ⟨_, ⟨⟨v0, v1, v2, v3⟩, ?_, ?_⟩, j0⟩
    · simp [Ru.c, Tr.c_eq]
    · exact g3
theorem Poc_len (v : Po) : (Po.c v).length = 2 := rfl
theorem rd26 : ∀ n, Rd enc Tryz.prog w n 26 (fun ps => ∃ v : Po, ps = Po.c v ∧ (Po.fine) v)
  | 0 => rd_zero
  | n + 1 => by
    intro fuel hf cs x h
    obtain ⟨hl, hfs⟩ := rd_field Tryz.underlying26 hf h
    have hl' : cs.length = 2 := hl.trans (by kernel_rfl)
    obtain ⟨p0, ⟨v0, rfl⟩, h0⟩ := hfs 0 _ rfl (s := 1) (rd_int Tryz.underlying3 n) (by kernel_rfl)
    obtain ⟨p1, ⟨v1, rfl, g1, l1⟩, h1⟩ := hfs 1 _ rfl (s := 1) ((rd_slice (c := Ru.c) (sz := 7) Tryz.underlying24 (by kernel_rfl) (fun v => Ruc_len v) (rd189 n)).le (by omega)) (by kernel_rfl)
    have j1 := join_last (o := 1) (s := 1) hl' h1
    have j0 := join_one (o := 0) (s := 1) (o' := 1) rfl h0 j1
    refine ⟨_, ⟨⟨v0, v1⟩, ?_, ?_⟩, j0⟩
    · simp [Po.c, Tr.c_eq]
    · exact ⟨l1, g1⟩
theorem Rqc_len (v : Rq) : (Rq.c v).length = 6 := rfl
theorem rd28 : ∀ n, Rd enc Tryz.prog w n 28 (fun ps => ∃ v : Rq, ps = Rq.c v ∧ (fun _ => True) v)
  | 0 => rd_zero
  | n + 1 => by
    intro fuel hf cs x h
    obtain ⟨hl, hfs⟩ := rd_field Tryz.underlying28 hf h
    have hl' : cs.length = 6 := hl.trans (by kernel_rfl)
    obtain ⟨p0, ⟨v0, rfl⟩, h0⟩ := hfs 0 _ rfl (s := 1) (rd_int Tryz.underlying3 n) (by kernel_rfl)
    obtain ⟨p1, ⟨v1, rfl⟩, h1⟩ := hfs 1 _ rfl (s := 1) (rd_int Tryz.underlying3 n) (by kernel_rfl)
    obtain ⟨p2, ⟨v2, rfl⟩, h2⟩ := hfs 2 _ rfl (s := 1) (rd_int Tryz.underlying3 n) (by kernel_rfl)
    obtain ⟨p3, ⟨v3, rfl⟩, h3⟩ := hfs 3 _ rfl (s := 1) (rd_int Tryz.underlying3 n) (by kernel_rfl)
    obtain ⟨p4, ⟨v4, rfl⟩, h4⟩ := hfs 4 _ rfl (s := 1) (rd_int Tryz.underlying3 n) (by kernel_rfl)
    obtain ⟨p5, ⟨v5, rfl⟩, h5⟩ := hfs 5 _ rfl (s := 1) (rd_int Tryz.underlying3 n) (by kernel_rfl)
    have j5 := join_last (o := 5) (s := 1) hl' h5
    have j4 := join_one (o := 4) (s := 1) (o' := 5) rfl h4 j5
    have j3 := join_one (o := 3) (s := 1) (o' := 4) rfl h3 j4
    have j2 := join_one (o := 2) (s := 1) (o' := 3) rfl h2 j3
    have j1 := join_one (o := 1) (s := 1) (o' := 2) rfl h1 j2
    have j0 := join_one (o := 0) (s := 1) (o' := 1) rfl h0 j1
    refine ⟨_, ⟨⟨v0, v1, v2, v3, v4, v5⟩, ?_, ?_⟩, j0⟩
    · rfl
    · trivial
end
theorem own : ownKnob Tryz.prog.godebug = none := by kernel_rfl
theorem laidOut : laidOutB Tryz.prog = true := by kernel_rfl
set_option maxRecDepth 100000 in
theorem lifted (os : Os) (started : os.Started) (H : Type) (enc : TypeId × Value → H) :
    ReturnsInHanded {} Tryz.checked os 14 .any (Rows.fnExactIsNeededSpec.pre6 enc Tryz.prog Tryz.f14 Rows.fnExactIsNeededRow.domain false) (Rows.fnExactIsNeededSpec.post enc Tryz.prog Tryz.f14 false true false false) := by
  refine returnsInHanded_of_change_sized (C := Tryz.checked) own started (by kernel_rfl) Tryz.func14
    (ChangeSpec.witness6 (enc := enc) (C := Tryz.checked) false ⟨#[], #[.slice none 0 0, .slice none 0 0, .agg #[.int .i64 0, .slice none 0 0], .agg #[.int .i64 0, .int .i64 0, .int .i64 0, .int .i64 0, .int .i64 0, .int .i64 0], .slice none 0 0, .int .i64 0], []⟩ 8 (by kernel_rfl) (by kernel_rfl) (by kernel_rfl) (by kernel_rfl)) ?_
  intro W base args ds gs before hval0 hW hcnd hsz0 _
  have hval : ∀ (j : Nat) t v, Tryz.f14.params[j]? = some t → args[j]? = some v → Value.okWide Tryz.prog W .any base t v := hval0
  have hW' := hW
  obtain ⟨p, q, hA0, hV, rfl, hfz, hnd⟩ := hW
  have hA : DataW.TrodAll enc Tryz.prog W 0 (fun _ => true) true Tryz.f14.params.toList args.toList ds p := hA0
  rw [Tryz.params14] at hA hval
  obtain ⟨v0, vs0, d0, ds0, p0, q0, hargs, rfl, rfl, h0, r0⟩ := trodAll_cons hA
  obtain ⟨v1, vs1, d1, ds1, p1, q1, rfl, rfl, rfl, h1, r1⟩ := trodAll_cons r0
  obtain ⟨v2, vs2, d2, ds2, p2, q2, rfl, rfl, rfl, h2, r2⟩ := trodAll_cons r1
  obtain ⟨v3, vs3, d3, ds3, p3, q3, rfl, rfl, rfl, h3, r3⟩ := trodAll_cons r2
  obtain ⟨v4, vs4, d4, ds4, p4, q4, rfl, rfl, rfl, h4, r4⟩ := trodAll_cons r3
  obtain ⟨v5, vs5, d5, ds5, p5, q5, rfl, rfl, rfl, h5, r5⟩ := trodAll_cons r4
  obtain ⟨rfl, rfl, rfl⟩ := trodAll_nil r5
  obtain rfl : args = #[v0, v1, v2, v3, v4, v5] := by cases args; simp_all
  obtain ⟨rfl, rfl⟩ := trodVars_none hV
  have k0 := h0
  have lt0 : ∀ x ∈ p0, x.block < W.heap.size := by obtain ⟨m, hm⟩ := k0; exact DataW.trod_lt m _ _ _ hm
  obtain ⟨a0, len0, cap0, rfl⟩ := okWide_slice Tryz.underlying22 (hval 0 22 v0 rfl rfl)
  obtain ⟨ps0, ⟨x0, rfl, g0, l0⟩, R0⟩ : ∃ ps, (∃ l : List Inc, ps = [PV.arr 2 (l.map Inc.c)] ∧ (∀ v ∈ l, (fun _ => True) v) ∧ l.length < 9223372036854775808) ∧ All2 (KR (here W) W) ps (Value.slice a0 len0 cap0).cells.toList := by obtain ⟨f, hf⟩ := h0; exact ((rd_slice (c := Inc.c) (sz := 2) Tryz.underlying22 (by kernel_rfl) (fun v => Incc_len v) (rd132 f)).le (by omega)) f (Nat.le_refl _) _ _ hf
  have k1 := h1
  have lt1 : ∀ x ∈ p1, x.block < W.heap.size := by obtain ⟨m, hm⟩ := k1; exact DataW.trod_lt m _ _ _ hm
  obtain ⟨a1, len1, cap1, rfl⟩ := okWide_slice Tryz.underlying23 (hval 1 23 v1 rfl rfl)
  obtain ⟨ps1, ⟨x1, rfl, g1, l1⟩, R1⟩ : ∃ ps, (∃ l : List Fa, ps = [PV.arr 6 (l.map Fa.c)] ∧ (∀ v ∈ l, (fun _ => True) v) ∧ l.length < 9223372036854775808) ∧ All2 (KR (here W) W) ps (Value.slice a1 len1 cap1).cells.toList := by obtain ⟨f, hf⟩ := h1; exact ((rd_slice (c := Fa.c) (sz := 6) Tryz.underlying23 (by kernel_rfl) (fun v => Fac_len v) (rd136 f)).le (by omega)) f (Nat.le_refl _) _ _ hf
  have k2 := h2
  have lt2 : ∀ x ∈ p2, x.block < W.heap.size := by obtain ⟨m, hm⟩ := k2; exact DataW.trod_lt m _ _ _ hm
  obtain ⟨c2, rfl, _⟩ := okWide_struct Tryz.underlying26 (hval 2 26 v2 rfl rfl)
  obtain ⟨ps2, ⟨x2, rfl, g2⟩, R2⟩ : ∃ ps, (∃ v : Po, ps = Po.c v ∧ (Po.fine) v) ∧ All2 (KR (here W) W) ps c2.toList := by obtain ⟨f, hf⟩ := h2; exact rd26 f f (Nat.le_refl _) _ _ hf
  have k3 := h3
  have lt3 : ∀ x ∈ p3, x.block < W.heap.size := by obtain ⟨m, hm⟩ := k3; exact DataW.trod_lt m _ _ _ hm
  obtain ⟨c3, rfl, _⟩ := okWide_struct Tryz.underlying28 (hval 3 28 v3 rfl rfl)
  obtain ⟨ps3, ⟨x3, rfl, g3⟩, R3⟩ : ∃ ps, (∃ v : Rq, ps = Rq.c v ∧ (fun _ => True) v) ∧ All2 (KR (here W) W) ps c3.toList := by obtain ⟨f, hf⟩ := h3; exact rd28 f f (Nat.le_refl _) _ _ hf
  have k4 := h4
  have lt4 : ∀ x ∈ p4, x.block < W.heap.size := by obtain ⟨m, hm⟩ := k4; exact DataW.trod_lt m _ _ _ hm
  obtain ⟨a4, len4, cap4, rfl⟩ := okWide_slice Tryz.underlying32 (hval 4 32 v4 rfl rfl)
  obtain ⟨ps4, ⟨x4, rfl, g4, l4⟩, R4⟩ : ∃ ps, (∃ l : List Int, ps = [PV.arr 1 (l.map (fun x : Int => [PV.int .i64 x]))] ∧ (∀ v ∈ l, (fun _ => True) v) ∧ l.length < 9223372036854775808) ∧ All2 (KR (here W) W) ps (Value.slice a4 len4 cap4).cells.toList := by obtain ⟨f, hf⟩ := h4; exact ((rd_slice (c := fun x : Int => [PV.int .i64 x]) (G := fun _ => True) (sz := 1) Tryz.underlying32 (by kernel_rfl) (fun _ => rfl) (rd_intG Tryz.underlying3 f)).le (by omega)) f (Nat.le_refl _) _ _ hf
  obtain ⟨a5, rfl, rfl, rfl, w5⟩ := open_int Tryz.underlying3 (hval 5 3 v5 rfl rfl) h5
  clear hA0 hval0 hsz0
  refine (law_ends (C := C) (w := W) (vs := #[_, _, _, _, _, _]) (all_right (FnExactIsNeeded_c x0 x1 x2 x3 x4 a5 l0 l1 g2 l4)) ⟨(arg_one R0), (arg_one R1), (arg_agg R2), (arg_agg R3), (arg_one R4), (arg_int a5), trivial⟩).mono fun e W' ⟨he, bel⟩ => ?_
  subst he
  exact ⟨_, rfl, _, _, _, [], _, [], hW', trodAll_mk1 (shut_bool Tryz.underlying4 _), (trodAll_cons_mk (Below.trod laidOut (by kernel_rfl) (of_decide_eq_true (by kernel_rfl)) k0 bel lt0) (trodAll_cons_mk (Below.trod laidOut (by kernel_rfl) (of_decide_eq_true (by kernel_rfl)) k1 bel lt1) (trodAll_cons_mk (Below.trod laidOut (by kernel_rfl) (of_decide_eq_true (by kernel_rfl)) k2 bel lt2) (trodAll_cons_mk (Below.trod laidOut (by kernel_rfl) (of_decide_eq_true (by kernel_rfl)) k3 bel lt3) (trodAll_cons_mk (Below.trod laidOut (by kernel_rfl) (of_decide_eq_true (by kernel_rfl)) k4 bel lt4) (trodAll_cons_mk (shut_int Tryz.underlying3 w5) trodAll_mk0)))))), rfl, bel.frame _, fun h => by cases h⟩
set_option maxHeartbeats 8000000 in
theorem closed : joinedFacts Tryz.pinned.checked.prog 14 Tryz.f14 Rows.fnExactIsNeededSpec Rows.fnExactIsNeededRow = true := by
  unfold joinedFacts
  simp only [Bool.and_eq_true]
  repeat' apply And.intro
  all_goals as_aux_lemma => kernel_rfl
theorem over : Rows.fnExactIsNeededRow.holds Tryz.pinned (OpenSpec.ofChange Rows.fnExactIsNeededSpec) :=
  OpenClaim.holds_of_wide 14 Tryz.f14 rfl rfl rfl rfl rfl rfl rfl ⟨rfl, rfl, rfl, rfl, rfl⟩ rfl rfl rfl rfl rfl (by kernel_rfl) Tryz.func14 closed
    (of_decide_eq_true (by kernel_rfl)) (by unfold Func.isWrapper; first | (rw [if_pos (by decide +kernel)]; kernel_rfl) | (rw [if_neg (by decide +kernel)]; exact ⟨rfl, rfl⟩))
    (fun os started H enc _ => lifted os started H enc)
theorem proved : Rows.FnExactIsNeededSaid := over
end Go.Proofs.YtbfochojhmggfaaGreat.fnExactIsNeeded
namespace Go.Proofs.YtbfochojhmggfaaGreat
/-- The row, under a short name, for the claim. -/
theorem fnExactIsNeeded_holds : Rows.FnExactIsNeededSaid := fnExactIsNeeded.proved
end Go.Proofs.YtbfochojhmggfaaGreat
